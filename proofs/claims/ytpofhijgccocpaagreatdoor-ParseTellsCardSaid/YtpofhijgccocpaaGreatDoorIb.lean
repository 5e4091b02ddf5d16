/- Parts of the proof of ParseTells. -/
import Derived.Test.YtpofhijgccocpaaGreatDoorIa
import Derived.Test.YtpofhijgccocpaaGreatDoorASrefl
import Derived.Test.YtpofhijgccocpaaGreatDoorAWnil
set_option maxRecDepth 100000
section
namespace Go.Proofs.YtpofhijgccocpaaGreatDoor
open Go Go.AS Go.TP
noncomputable abbrev zacD:=eR 1048578 [1,0] 5 [AV.agg [i0 0,i0 0,i0 0,s0 ByteArray.empty,AV.lit (Value.slice none 0 0)]]
noncomputable abbrev zag1 (k:Int) (a:Int) (x:ByteArray) (r:List AV) (d:Int):=(True/\Wks [AV.ptr 1048577 [0,0] 0 0] [AV.ptr 1048577 [0,0] 0 0]/\hpL [eR 1048577 [0,0] 2 [AV.agg [L3 (AV.agg [i0 k,i0 a,s0 x]::r),i0 d]]]=hpL [eR 1048577 [0,0] 2 [AV.agg [L3 (AV.agg [i0 k,i0 a,s0 x]::r),i0 d]]])
noncomputable abbrev zakE:=[AV.ptr 1048580 [3,0] 0 0,AV.mp 1048579 [2,0],AV.fn (Fn.func 89) [AV.ptr 1048580 [3,0] 0 0] [],AV.ptr 1048578 [1,0] 0 0,AV.ptr 1048577 [0,0] 0 0,AV.lit Value.nilIface]
noncomputable abbrev zadU:=[Value.int IntKind.i64 7,Value.int IntKind.i64 8]
noncomputable abbrev zadu (ea:Int) (ek:Int):=AV.iface 118 (AV.ref (AV.agg [i0 ea,AV.iface 26 (i0 ek)]))
noncomputable abbrev zakD (fa:Int) (fk:Int):=(AV.tup [AV.ptr 1048578 [1,0] 0 0,AV.ptr 1048577 [0,0] 0 0,AV.iface 118 (AV.ref (AV.agg [i0 fa,AV.iface 26 (i0 fk)]))])
noncomputable abbrev zap1:=[AV.ptr 1048580 [3,0] 0 0,AV.mp 1048579 [2,0],AV.fn (Fn.func 116) [AV.ptr 1048580 [3,0] 0 0] [],AV.ptr 1048578 [1,0] 0 0,AV.ptr 1048577 [0,0] 0 0,AV.lit Value.nilIface]
noncomputable abbrev zafQ:=(true&&(true&&(true&&(true&&Option.isSome (some ())))))
noncomputable abbrev zadl (us:List AV) (d:Int):=eR 1048580 [3,0] 2 [AV.agg [L3 us,i0 d]]
noncomputable abbrev zauN (ts:List AV) (d:Int):=(True/\Wks [AV.ptr 1048577 [0,0] 0 0] [AV.ptr 1048577 [0,0] 0 0]/\hpL [eR 1048577 [0,0] 2 [AV.agg [L3 ts,i0 d]]]=hpL [eR 1048577 [0,0] 2 [AV.agg [L3 ts,i0 d]]])
noncomputable abbrev zaj9 (ea:Int) (ek:Int):=[AV.ptr 1048580 [3,0] 0 0,AV.mp 1048579 [2,0],AV.fn (Fn.func 89) [AV.ptr 1048580 [3,0] 0 0] [],AV.ptr 1048578 [1,0] 0 0,AV.ptr 1048577 [0,0] 0 0,(zadu ea ek)]
noncomputable abbrev zabc (ts':List AV) (d:Int):=(hpL [eR 1048577 [0,0] 2 [AV.agg [L3 ts',i0 d]]])
noncomputable abbrev zafr:=(AV.tup [AV.ptr 1048578 [1,0] 0 0,AV.ptr 1048577 [0,0] 0 0,AV.lit Value.nilIface])
theorem zasM (a:Int)(x:ByteArray)(r:List AV)(d:Int):zaFz (Orc.t Orc.z) a x r d=(let z1:=[i0 5,i0 a,s0 x];Yt ((decide ((0:Int)<=(1:Int)/\(1:Int)<=(↑(List.length (AV.agg z1::r)):Int))&&true)=true/\Wk (AV.agg z1) (AV.agg z1)/\SameH (hpL [eR 1048577 [0,0] 2 [AV.agg [L3 (List.drop 1 (AV.agg z1::r)),i0 d]]]) (hpL [eR 1048577 [0,0] 2 [AV.agg [L3 r,i0 d]]]))):=by kernel_rfl
theorem zaGK (a:Int)(x:ByteArray)(r:List AV):uD (Orc.t (Orc.f Orc.z)) a x r=(let z1:=AV.iface 118 (AV.ref (AV.agg [i0 a,AV.iface 26 (i0 16)]));let z2:=(hpL [eR 1048577 [0,0] 2 [AV.agg [L3 r,i0 24]]]);Yt (Nf (Wk (AV.tup [AV.agg [i0 6,i0 a,i0 0,s0 ⟨⟨[]⟩⟩,AV.lit (Value.slice none 0 0)],z1]) (AV.tup [AV.agg [i0 6,i0 a,i0 0,s0 ByteArray.empty,L5 []],z1])/\SameH z2 z2))):=by kernel_rfl
theorem zaGG (a:Int)(x:ByteArray)(r:List AV)(d:Int)(q:Nd)(ts':List AV):uN (Orc.f Orc.z) a x r d q ts'=(let z1:=[eR 1048577 [0,0] 2 [AV.agg [L3 r,i0 (d+1)]]];(d==24)=false/\inR IntKind.i64 (d+1)=true/\U1 [AV.ptr 1048577 [0,0] 0 0] z1 (inR IntKind.i64 (d+1-(1:Int))=true/\Wk (AV.tup [AV.agg [i0 6,i0 a,i0 0,s0 ⟨⟨[]⟩⟩,AV.lst true 5 [encP q]],AV.lit Value.nilIface]) (AV.tup [AV.agg [i0 6,i0 a,i0 0,s0 ByteArray.empty,L5 [encP q]],AV.lit Value.nilIface])/\SameH (hpL [eR 1048577 [0,0] 2 [AV.agg [L3 ts',i0 (d+1-(1:Int))]]]) (zabc ts' d))):=by kernel_rfl
theorem zaGI (a:Int)(x:ByteArray)(r:List AV)(d:Int)(q:Nd)(ek ea:Int)(ts':List AV):uE (Orc.f Orc.z) a x r d q ek ea ts'=(let z1:=[eR 1048577 [0,0] 2 [AV.agg [L3 r,i0 (d+1)]]];(d==24)=false/\inR IntKind.i64 (d+1)=true/\U1 [AV.ptr 1048577 [0,0] 0 0] z1 (inR IntKind.i64 (d+1-(1:Int))=true/\Wk (AV.tup [AV.agg [i0 6,i0 a,i0 0,s0 ⟨⟨[]⟩⟩,AV.lst true 5 [encP q]],(zadu ea ek)]) (AV.tup [AV.agg [i0 6,i0 a,i0 0,s0 ByteArray.empty,L5 [encP q]],(zadu ea ek)])/\SameH (hpL [eR 1048577 [0,0] 2 [AV.agg [L3 ts',i0 (d+1-(1:Int))]]]) (zabc ts' d))):=by kernel_rfl
theorem zavM (a:Int)(x:ByteArray)(r:List AV)(d:Int)(q:Nd)(ts':List AV):rUpN (Orc.t Orc.z) a x r d q ts'=(let z1:=[eR 1048577 [0,0] 2 [AV.agg [L3 (AV.agg [i0 5,i0 a,s0 x]::r),i0 d]]];let z2:=AV.ptr 1048577 [0,0] 0 0;let z3:=[eR 1048577 [0,0] 2 [AV.agg [L3 r,i0 d]]];let z4:=(AV.tup [encP q,AV.lit Value.nilIface]);Yt (U1 [z2] z1 (U1 [z2,AV.agg [i0 5,i0 a,s0 x]] z3 (Wk z4 z4/\SameH (zabc ts' d) (zabc ts' d))))):=by kernel_rfl
theorem zavO (a:Int)(x:ByteArray)(r:List AV)(d:Int)(q:Nd)(ek ea:Int)(ts':List AV):rUpE (Orc.t Orc.z) a x r d q ek ea ts'=(let z1:=[eR 1048577 [0,0] 2 [AV.agg [L3 (AV.agg [i0 5,i0 a,s0 x]::r),i0 d]]];let z2:=AV.ptr 1048577 [0,0] 0 0;let z3:=[eR 1048577 [0,0] 2 [AV.agg [L3 r,i0 d]]];Yt (U1 [z2] z1 (U1 [z2,AV.agg [i0 5,i0 a,s0 x]] z3 (Wk (AV.tup [encP q,(zadu ea ek)]) (AV.tup [encP q,(zadu ea ek)])/\SameH (zabc ts' d) (zabc ts' d))))):=by kernel_rfl
theorem zaws (k a:Int)(x:ByteArray)(r:List AV)(d:Int)(q:Nd)(ek ea:Int)(ts':List AV):rAtE (Orc.f (Orc.t Orc.z)) k a x r d q ek ea ts'=((k==5)=false/\∃ (_:Unit),(zag1 k a x r d)/\Yt (Wk (AV.tup [encP q,(zadu ea ek)]) (AV.tup [encP q,(zadu ea ek)])/\SameH (zabc ts' d) (zabc ts' d))):=by kernel_rfl
def zaEv:Orc:=Orc.f (Orc.f (Orc.f (Orc.f Orc.z)))
theorem zawu (k a:Int)(x:ByteArray)(r:List AV)(d:Int)(q:Nd)(k' a':Int)(x':ByteArray)(r':List AV):rAt0 zaEv k a x r d q k' a' x' r'=(let z1:=(hpL [eR 1048577 [0,0] 2 [AV.agg [L3 (AV.agg [i0 k',i0 a',s0 x']::r'),i0 d]]]);let z2:=(AV.tup [encP q,AV.lit Value.nilIface]);(k==5)=false/\∃ (_:Unit),(zag1 k a x r d)/\Nf ((k'==5)=false/\(k'==6)=false/\Wk z2 z2/\SameH z1 z1)):=by kernel_rfl
def zawT:Orc:=Orc.f (Orc.f (Orc.t (Orc.t (Orc.t (Orc.f Orc.z)))))
theorem zasl (k a:Int)(x:ByteArray)(r:List AV)(q:Nd)(a':Int)(x':ByteArray)(r':List AV):zaEe zawT k a x r q a' x' r'=(let z1:=[eR 1048577 [0,0] 2 [AV.agg [L3 (AV.agg [i0 k,i0 a,s0 x]::r),i0 24]]];let z2:=AV.iface 118 (AV.ref (AV.agg [i0 a',AV.iface 26 (i0 16)]));let z3:=(AV.agg [i0 5,i0 a',s0 x']::r');(k==5)=false/\U1 [AV.ptr 1048577 [0,0] 0 0] z1 (Nf (Yt (Yt ((decide ((0:Int)<=(1:Int)/\(1:Int)<=(↑(List.length z3):Int))&&Nat.beq 3 3)=true/\Yt (Nf (Wk (AV.tup [AV.agg [i0 8,i0 a',i0 0,s0 ⟨⟨[]⟩⟩,AV.lst true 5 [encP q]],z2]) (AV.tup [AV.agg [i0 8,i0 a',i0 0,s0 ByteArray.empty,L5 [encP q]],z2])/\SameH (hpL [eR 1048577 [0,0] 2 [AV.agg [L3 (List.drop 1 z3),i0 24]]]) (hpL [eR 1048577 [0,0] 2 [AV.agg [L3 r',i0 24]]])))))))):=by kernel_rfl
def zawS:Orc:=Orc.f (Orc.f (Orc.t (Orc.t (Orc.f (HT (Orc.f (Orc.f (Orc.t (Orc.t Orc.z)))))))))
theorem zasj (k a:Int)(x:ByteArray)(r:List AV)(d:Int)(q:Nd)(a':Int)(x':ByteArray)(k2 a2:Int)(x2:ByteArray)(r':List AV):zaEd zawS k a x r d q a' x' k2 a2 x2 r'=(let z1:=L3 (AV.agg [i0 k2,i0 a2,s0 x2]::r');(k==5)=false/\∃ (_:Unit),(zag1 k a x r d)/\Nf (Yt (Yt ((decide ((0:Int)<=(1:Int)/\(1:Int)<=(↑(List.length (AV.agg [i0 5,i0 a',s0 x']::AV.agg [i0 k2,i0 a2,s0 x2]::r')):Int))&&Nat.beq 3 3)=true/\(d==24)=false/\inR IntKind.i64 (d+1)=true/\Yt4 ((k2==2)=false/\(k2==1)=false/\Yt (Yt (inR IntKind.i64 (d+1-(1:Int))=true/\Wk (AV.tup [AV.agg [i0 7,i0 a',i0 0,s0 ⟨⟨[]⟩⟩,AV.lst true 5 [encP q]],AV.lit Value.nilIface]) (AV.tup [AV.agg [i0 7,i0 a',i0 0,s0 ByteArray.empty,L5 [encP q]],AV.lit Value.nilIface])/\SameH (hpL [eR 1048577 [0,0] 2 [AV.agg [z1,i0 (d+1-(1:Int))]]]) (hpL [eR 1048577 [0,0] 2 [AV.agg [z1,i0 d]]])))))))):=by kernel_rfl
def zaqa:Orc:=Orc.f (Orc.alt 0 (Orc.f (Orc.t (Orc.t (Orc.f (HT (Orc.t (Orc.t (Orc.f (Orc.alt 1 Orc.z))))))))))
theorem zan3 (k a:Int)(x:ByteArray)(r:List AV)(d:Int)(q:Nd)(a':Int)(x':ByteArray)(a2:Int)(x2:ByteArray)(r':List AV)(q2:Nd)(ts':List AV):zawo zaqa k a x r d q a' x' a2 x2 r' q2 ts'=(let z1:=[encP q,encP q2];let z2:=[eR 1048577 [0,0] 2 [AV.agg [L3 (AV.agg [i0 2,i0 a2,s0 x2]::r'),i0 (d+1)]]];(k==5)=false/\∃ (_:Unit),(zag1 k a x r d)/\Nf (Yt (Yt ((decide ((0:Int)<=(1:Int)/\(1:Int)<=(↑(List.length (AV.agg [i0 5,i0 a',s0 x']::AV.agg [i0 2,i0 a2,s0 x2]::r')):Int))&&Nat.beq 3 3)=true/\(d==24)=false/\inR IntKind.i64 (d+1)=true/\Yt4 (Yt (Yt (Nf (U1 [AV.ptr 1048577 [0,0] 0 0] z2 (decide (List.length z1*64<=140737488355328/\List.length z1<=1152921504606846976)=true/\inR IntKind.i64 (d+1-(1:Int))=true/\0+List.length z1<=List.length z1/\0+List.length z1<=List.length z1/\0+List.length z1<=List.length z1/\0+List.length z1<=List.length z1/\0+List.length z1<=List.length z1/\Wk (AV.tup [AV.agg [i0 8,i0 a',i0 0,s0 ⟨⟨[]⟩⟩,L5 z1],AV.lit Value.nilIface]) (AV.tup [AV.agg [i0 8,i0 a',i0 0,s0 ByteArray.empty,L5 z1],AV.lit Value.nilIface])/\SameH (hpL [eR 1048577 [0,0] 2 [AV.agg [L3 ts',i0 (d+1-(1:Int))]]]) (zabc ts' d)))))))))):=by kernel_rfl
def zaqb:Orc:=Orc.f (Orc.alt 0 (Orc.f (Orc.t (Orc.t (Orc.f (HT (Orc.t (Orc.t (Orc.f (Orc.alt 1 Orc.z))))))))))
theorem zan5 (k a:Int)(x:ByteArray)(r:List AV)(d:Int)(q:Nd)(a':Int)(x':ByteArray)(a2:Int)(x2:ByteArray)(r':List AV)(q2:Nd)(ek ea:Int)(ts':List AV):zawp zaqb k a x r d q a' x' a2 x2 r' q2 ek ea ts'=(let z1:=[encP q,encP q2];let z2:=[eR 1048577 [0,0] 2 [AV.agg [L3 (AV.agg [i0 2,i0 a2,s0 x2]::r'),i0 (d+1)]]];(k==5)=false/\∃ (_:Unit),(zag1 k a x r d)/\Nf (Yt (Yt ((decide ((0:Int)<=(1:Int)/\(1:Int)<=(↑(List.length (AV.agg [i0 5,i0 a',s0 x']::AV.agg [i0 2,i0 a2,s0 x2]::r')):Int))&&Nat.beq 3 3)=true/\(d==24)=false/\inR IntKind.i64 (d+1)=true/\Yt4 (Yt (Yt (Nf (U1 [AV.ptr 1048577 [0,0] 0 0] z2 (decide (List.length z1*64<=140737488355328/\List.length z1<=1152921504606846976)=true/\inR IntKind.i64 (d+1-(1:Int))=true/\0+List.length z1<=List.length z1/\0+List.length z1<=List.length z1/\0+List.length z1<=List.length z1/\0+List.length z1<=List.length z1/\0+List.length z1<=List.length z1/\Wk (AV.tup [AV.agg [i0 8,i0 a',i0 0,s0 ⟨⟨[]⟩⟩,L5 z1],(zadu ea ek)]) (AV.tup [AV.agg [i0 8,i0 a',i0 0,s0 ByteArray.empty,L5 z1],(zadu ea ek)])/\SameH (hpL [eR 1048577 [0,0] 2 [AV.agg [L3 ts',i0 (d+1-(1:Int))]]]) (zabc ts' d)))))))))):=by kernel_rfl
def zaqc:Orc:=Orc.f (Orc.alt 0 (Orc.f (Orc.t (Orc.t (Orc.f (HT (Orc.f (Orc.t (Orc.t (Orc.f (Orc.alt 1 Orc.z)))))))))))
theorem zan7 (k a:Int)(x:ByteArray)(r:List AV)(d:Int)(q:Nd)(a':Int)(x':ByteArray)(a2:Int)(x2:ByteArray)(r':List AV)(q2:Nd)(ts':List AV):zawq zaqc k a x r d q a' x' a2 x2 r' q2 ts'=(let z1:=[encP q,encP q2];let z2:=[eR 1048577 [0,0] 2 [AV.agg [L3 (AV.agg [i0 1,i0 a2,s0 x2]::r'),i0 (d+1)]]];(k==5)=false/\∃ (_:Unit),(zag1 k a x r d)/\Nf (Yt (Yt ((decide ((0:Int)<=(1:Int)/\(1:Int)<=(↑(List.length (AV.agg [i0 5,i0 a',s0 x']::AV.agg [i0 1,i0 a2,s0 x2]::r')):Int))&&Nat.beq 3 3)=true/\(d==24)=false/\inR IntKind.i64 (d+1)=true/\Yt4 (Nf (Yt (Yt (Nf (U1 [AV.ptr 1048577 [0,0] 0 0] z2 (decide (List.length z1*64<=140737488355328/\List.length z1<=1152921504606846976)=true/\inR IntKind.i64 (d+1-(1:Int))=true/\0+List.length z1<=List.length z1/\0+List.length z1<=List.length z1/\0+List.length z1<=List.length z1/\0+List.length z1<=List.length z1/\0+List.length z1<=List.length z1/\Wk (AV.tup [AV.agg [i0 8,i0 a',i0 0,s0 ⟨⟨[]⟩⟩,L5 z1],AV.lit Value.nilIface]) (AV.tup [AV.agg [i0 8,i0 a',i0 0,s0 ByteArray.empty,L5 z1],AV.lit Value.nilIface])/\SameH (hpL [eR 1048577 [0,0] 2 [AV.agg [L3 ts',i0 (d+1-(1:Int))]]]) (zabc ts' d))))))))))):=by kernel_rfl
def zaqd:Orc:=Orc.f (Orc.alt 0 (Orc.f (Orc.t (Orc.t (Orc.f (HT (Orc.f (Orc.t (Orc.t (Orc.f (Orc.alt 1 Orc.z)))))))))))
theorem zan9 (k a:Int)(x:ByteArray)(r:List AV)(d:Int)(q:Nd)(a':Int)(x':ByteArray)(a2:Int)(x2:ByteArray)(r':List AV)(q2:Nd)(ek ea:Int)(ts':List AV):zawr zaqd k a x r d q a' x' a2 x2 r' q2 ek ea ts'=(let z1:=[encP q,encP q2];let z2:=[eR 1048577 [0,0] 2 [AV.agg [L3 (AV.agg [i0 1,i0 a2,s0 x2]::r'),i0 (d+1)]]];(k==5)=false/\∃ (_:Unit),(zag1 k a x r d)/\Nf (Yt (Yt ((decide ((0:Int)<=(1:Int)/\(1:Int)<=(↑(List.length (AV.agg [i0 5,i0 a',s0 x']::AV.agg [i0 1,i0 a2,s0 x2]::r')):Int))&&Nat.beq 3 3)=true/\(d==24)=false/\inR IntKind.i64 (d+1)=true/\Yt4 (Nf (Yt (Yt (Nf (U1 [AV.ptr 1048577 [0,0] 0 0] z2 (decide (List.length z1*64<=140737488355328/\List.length z1<=1152921504606846976)=true/\inR IntKind.i64 (d+1-(1:Int))=true/\0+List.length z1<=List.length z1/\0+List.length z1<=List.length z1/\0+List.length z1<=List.length z1/\0+List.length z1<=List.length z1/\0+List.length z1<=List.length z1/\Wk (AV.tup [AV.agg [i0 8,i0 a',i0 0,s0 ⟨⟨[]⟩⟩,L5 z1],(zadu ea ek)]) (AV.tup [AV.agg [i0 8,i0 a',i0 0,s0 ByteArray.empty,L5 z1],(zadu ea ek)])/\SameH (hpL [eR 1048577 [0,0] 2 [AV.agg [L3 ts',i0 (d+1-(1:Int))]]]) (zabc ts' d))))))))))):=by kernel_rfl
def zap9:Orc:=Orc.f (Orc.alt 0 (Orc.f (Orc.f (Orc.t (Orc.t (HF (Orc.f (Orc.f (Orc.alt 1 Orc.z)))))))))
theorem zanZ (k a:Int)(x:ByteArray)(r:List AV)(d:Int)(q:Nd)(a':Int)(x':ByteArray)(r':List AV)(q2:Nd)(ts':List AV):zavT zap9 k a x r d q a' x' r' q2 ts'=(let z1:=[encP q,encP q2];let z2:=(AV.agg [i0 6,i0 a',s0 x']::r');(k==5)=false/\∃ (_:Unit),(zag1 k a x r d)/\Nf (Nf (Yt (Yt ((decide ((0:Int)<=(1:Int)/\(1:Int)<=(↑(List.length z2):Int))&&Nat.beq 3 3)=true/\Nf4 (Nf (Nf (∃ (_:Unit),(True/\Wks [AV.ptr 1048577 [0,0] 0 0] [AV.ptr 1048577 [0,0] 0 0]/\hpL [eR 1048577 [0,0] 2 [AV.agg [L3 (List.drop 1 z2),i0 d]]]=hpL [eR 1048577 [0,0] 2 [AV.agg [L3 r',i0 d]]])/\decide (List.length z1*64<=140737488355328/\List.length z1<=1152921504606846976)=true/\0+List.length z1<=List.length z1/\0+List.length z1<=List.length z1/\0+List.length z1<=List.length z1/\0+List.length z1<=List.length z1/\Wk (AV.tup [AV.agg [i0 9,i0 a',i0 0,s0 ⟨⟨[]⟩⟩,L5 z1],AV.lit Value.nilIface]) (AV.tup [AV.agg [i0 9,i0 a',i0 0,s0 ByteArray.empty,L5 z1],AV.lit Value.nilIface])/\SameH (zabc ts' d) (zabc ts' d))))))))):=by kernel_rfl
def zaq:Orc:=Orc.f (Orc.alt 0 (Orc.f (Orc.f (Orc.t (Orc.t (HF (Orc.f (Orc.f (Orc.alt 1 Orc.z)))))))))
theorem zan1 (k a:Int)(x:ByteArray)(r:List AV)(d:Int)(q:Nd)(a':Int)(x':ByteArray)(r':List AV)(q2:Nd)(ek ea:Int)(ts':List AV):zavU zaq k a x r d q a' x' r' q2 ek ea ts'=(let z1:=[encP q,encP q2];let z2:=(AV.agg [i0 6,i0 a',s0 x']::r');(k==5)=false/\∃ (_:Unit),(zag1 k a x r d)/\Nf (Nf (Yt (Yt ((decide ((0:Int)<=(1:Int)/\(1:Int)<=(↑(List.length z2):Int))&&Nat.beq 3 3)=true/\Nf4 (Nf (Nf (∃ (_:Unit),(True/\Wks [AV.ptr 1048577 [0,0] 0 0] [AV.ptr 1048577 [0,0] 0 0]/\hpL [eR 1048577 [0,0] 2 [AV.agg [L3 (List.drop 1 z2),i0 d]]]=hpL [eR 1048577 [0,0] 2 [AV.agg [L3 r',i0 d]]])/\decide (List.length z1*64<=140737488355328/\List.length z1<=1152921504606846976)=true/\0+List.length z1<=List.length z1/\0+List.length z1<=List.length z1/\0+List.length z1<=List.length z1/\0+List.length z1<=List.length z1/\Wk (AV.tup [AV.agg [i0 9,i0 a',i0 0,s0 ⟨⟨[]⟩⟩,L5 z1],(zadu ea ek)]) (AV.tup [AV.agg [i0 9,i0 a',i0 0,s0 ByteArray.empty,L5 z1],(zadu ea ek)])/\SameH (zabc ts' d) (zabc ts' d))))))))):=by kernel_rfl
def zawI:Orc:=Orc.f (Orc.t (Orc.t (Orc.f Orc.z)))
theorem zarF (a:Int)(x:ByteArray)(r:List AV):zaDK zawI a x r=(let z1:=AV.iface 118 (AV.ref (AV.agg [i0 a,AV.iface 26 (i0 16)]));Nf (Yt ((decide ((0:Int)<=(1:Int)/\(1:Int)<=(↑(List.length (AV.agg [i0 10,i0 a,s0 x]::r)):Int))&&true)=true/\Yt (Nf (Wk (AV.tup [AV.agg [i0 5,i0 a,i0 0,s0 ⟨⟨[]⟩⟩,AV.lit (Value.slice none 0 0)],z1]) (AV.tup [AV.agg [i0 5,i0 a,i0 0,s0 ByteArray.empty,L5 []],z1])/\SameH (hpL [eR 1048577 [0,0] 2 [AV.agg [L3 (List.drop 1 (AV.agg [i0 10,i0 a,s0 x]::r)),i0 24]]]) (hpL [eR 1048577 [0,0] 2 [AV.agg [L3 r,i0 24]]])))))):=by kernel_rfl
theorem zarB (a:Int)(x:ByteArray)(r:List AV)(d:Int)(q:Nd)(ts':List AV):zaDI (Orc.f (Orc.t (Orc.f Orc.z))) a x r d q ts'=(Nf (Yt ((decide ((0:Int)<=(1:Int)/\(1:Int)<=(↑(List.length (AV.agg [i0 10,i0 a,s0 x]::r)):Int))&&Nat.beq 3 3)=true/\(d==24)=false/\inR IntKind.i64 (d+1)=true/\∃ (_:Unit),(True/\Wks [AV.ptr 1048577 [0,0] 0 0] [AV.ptr 1048577 [0,0] 0 0]/\hpL [eR 1048577 [0,0] 2 [AV.agg [L3 (List.drop 1 (AV.agg [i0 10,i0 a,s0 x]::r)),i0 (d+1)]]]=hpL [eR 1048577 [0,0] 2 [AV.agg [L3 r,i0 (d+1)]]])/\inR IntKind.i64 (d+1-(1:Int))=true/\Wk (AV.tup [AV.agg [i0 5,i0 a,i0 0,s0 ⟨⟨[]⟩⟩,AV.lst true 5 [encP q]],AV.lit Value.nilIface]) (AV.tup [AV.agg [i0 5,i0 a,i0 0,s0 ByteArray.empty,L5 [encP q]],AV.lit Value.nilIface])/\SameH (hpL [eR 1048577 [0,0] 2 [AV.agg [L3 ts',i0 (d+1-(1:Int))]]]) (zabc ts' d)))):=by kernel_rfl
theorem zarD (a:Int)(x:ByteArray)(r:List AV)(d:Int)(q:Nd)(ek ea:Int)(ts':List AV):zaDJ (Orc.f (Orc.t (Orc.f Orc.z))) a x r d q ek ea ts'=(Nf (Yt ((decide ((0:Int)<=(1:Int)/\(1:Int)<=(↑(List.length (AV.agg [i0 10,i0 a,s0 x]::r)):Int))&&Nat.beq 3 3)=true/\(d==24)=false/\inR IntKind.i64 (d+1)=true/\∃ (_:Unit),(True/\Wks [AV.ptr 1048577 [0,0] 0 0] [AV.ptr 1048577 [0,0] 0 0]/\hpL [eR 1048577 [0,0] 2 [AV.agg [L3 (List.drop 1 (AV.agg [i0 10,i0 a,s0 x]::r)),i0 (d+1)]]]=hpL [eR 1048577 [0,0] 2 [AV.agg [L3 r,i0 (d+1)]]])/\inR IntKind.i64 (d+1-(1:Int))=true/\Wk (AV.tup [AV.agg [i0 5,i0 a,i0 0,s0 ⟨⟨[]⟩⟩,AV.lst true 5 [encP q]],(zadu ea ek)]) (AV.tup [AV.agg [i0 5,i0 a,i0 0,s0 ByteArray.empty,L5 [encP q]],(zadu ea ek)])/\SameH (hpL [eR 1048577 [0,0] 2 [AV.agg [L3 ts',i0 (d+1-(1:Int))]]]) (zabc ts' d)))):=by kernel_rfl
theorem zarx (k a:Int)(x:ByteArray)(r:List AV)(d:Int)(q:Nd)(ts':List AV):zaDG (Orc.t Orc.z) k a x r d q ts'=(let z1:=(AV.tup [encP q,AV.lit Value.nilIface]);(k != 10)=true/\∃ (_:Unit),(zag1 k a x r d)/\Wk z1 z1/\SameH (zabc ts' d) (zabc ts' d)):=by kernel_rfl
theorem zarz (k a:Int)(x:ByteArray)(r:List AV)(d:Int)(q:Nd)(ek ea:Int)(ts':List AV):zaDH (Orc.t Orc.z) k a x r d q ek ea ts'=((k != 10)=true/\∃ (_:Unit),(zag1 k a x r d)/\Wk (AV.tup [encP q,(zadu ea ek)]) (AV.tup [encP q,(zadu ea ek)])/\SameH (zabc ts' d) (zabc ts' d)):=by kernel_rfl
def ocXe:Orc:=HT (Orc.t (Orc.t (Orc.f Orc.z)))
theorem zaDi (k a:Int)(x:ByteArray)(r:List AV)(d:Int)(n:Nd):cXe ocXe k a x r d n=(let z1:List (Nat × Ent):=[(1048579,{ id:=[2,0],obj:=AObj.map true (zadU) [i0 2,i0 3] }),eR 1048577 [0,0] 5 [encP n],eR 1048580 [3,0] 2 [AV.agg [L3 (AV.agg [i0 k,i0 a,s0 x]::r),i0 d]],(zacD)];Yt4 (Yt ((zafQ)=true/\Yt ((zafw k (zadU) [i0 2,i0 3] != 0)=false/\Ex.exit 0=Ex.exit 0/\Wk (zafr) (zafr)/\SameH (hpL z1) (hpL z1))))):=by kernel_rfl
def ocXt:Orc:=HT (Orc.t (Orc.t (Orc.f Orc.z)))
theorem zaDg (k a:Int)(x:ByteArray)(r:List AV)(d:Int)(n:Nd):cXt ocXt k a x r d n=(let z1:List (Nat × Ent):=[(1048579,{ id:=[2,0],obj:=AObj.map true [Value.int IntKind.i64 9] [i0 4] }),eR 1048577 [0,0] 5 [encP n],eR 1048580 [3,0] 2 [AV.agg [L3 (AV.agg [i0 k,i0 a,s0 x]::r),i0 d]],(zacD)];Yt4 (Yt ((zafQ)=true/\Yt ((zafw k [Value.int IntKind.i64 9] [i0 4] != 0)=false/\Ex.exit 0=Ex.exit 0/\Wk (zafr) (zafr)/\SameH (hpL z1) (hpL z1))))):=by kernel_rfl
def ocEe:Orc:=HF (Orc.f (Orc.f (Orc.f Orc.z)))
theorem zaDm (ts:List AV)(d:Int)(n:Nd)(ek ea:Int):cEe ocEe ts d n ek ea=(let z1:List (Nat × Ent):=[(1048579,{ id:=[2,0],obj:=AObj.map true (zadU) [i0 2,i0 3] }),eR 1048577 [0,0] 5 [encP n],eR 1048580 [3,0] 2 [AV.agg [L3 ts,i0 d]],(zacD)];let z2:=(AV.tup [AV.ptr 1048578 [1,0] 0 0,AV.ptr 1048577 [0,0] 0 0,(zadu ea ek)]);Nf4 (Nf (Nf (Nf (Ex.exit 0=Ex.exit 0/\Wk z2 z2/\SameH (hpL z1) (hpL z1)))))):=by kernel_rfl
def ocEt:Orc:=HF (Orc.f (Orc.f (Orc.f Orc.z)))
theorem zaDk (ts:List AV)(d:Int)(n:Nd)(ek ea:Int):cEt ocEt ts d n ek ea=(let z1:List (Nat × Ent):=[(1048579,{ id:=[2,0],obj:=AObj.map true [Value.int IntKind.i64 9] [i0 4] }),eR 1048577 [0,0] 5 [encP n],eR 1048580 [3,0] 2 [AV.agg [L3 ts,i0 d]],(zacD)];let z2:=(AV.tup [AV.ptr 1048578 [1,0] 0 0,AV.ptr 1048577 [0,0] 0 0,(zadu ea ek)]);Nf4 (Nf (Nf (Nf (Ex.exit 0=Ex.exit 0/\Wk z2 z2/\SameH (hpL z1) (hpL z1)))))):=by kernel_rfl
def zaFq:Orc:=HT (Orc.t (Orc.t (Orc.t (Orc.t Orc.z))))
theorem zaAV (a:Int)(x:ByteArray)(r:List AV)(d:Int)(n q:Nd)(us zs:List AV)(m:Nd):cR7N zaFq a x r d n q us zs m=(let z1:List (Nat × Ent):=[(1048579,{ id:=[2,0],obj:=AObj.map true (zadU) [i0 2,i0 3] }),eR 1048577 [0,0] 5 [encP m],eR 1048580 [3,0] 2 [AV.agg [L3 zs,i0 d]],(zacD)];Yt4 (Yt ((zafQ)=true/\Yt (Yt (Yt ((decide ((0:Int)<=(1:Int)/\(1:Int)<=(↑(List.length (AV.agg [i0 7,i0 a,s0 x]::r)):Int))&&Nat.beq 3 3)=true/\∃ (_:Unit),(True/\Wks [AV.ptr 1048577 [0,0] 0 0] [AV.ptr 1048577 [0,0] 0 0]/\hpL [eR 1048577 [0,0] 2 [AV.agg [L3 (List.drop 1 (AV.agg [i0 7,i0 a,s0 x]::r)),i0 d]]]=hpL [eR 1048577 [0,0] 2 [AV.agg [L3 r,i0 d]]])/\(zafQ)=true/\∃ (_:Unit),(True/\Wks (zakE) (zakE)/\HW (hpL [(1048579,{ id:=[2,0],obj:=AObj.map true (zadU) [i0 2,i0 3] }),eR 1048577 [0,0] 5 [AV.agg [i0 2,i0 a,i0 0,s0 ⟨⟨[]⟩⟩,AV.lst true 5 [encP n,encP q]]],(zadl us d),(zacD)]) (hpL [(1048579,{ id:=[2,0],obj:=AObj.map true (zadU) [i0 2,i0 3] }),eR 1048577 [0,0] 5 [AV.agg [i0 2,i0 a,i0 0,s0 ByteArray.empty,L5 [encP n,encP q]]],(zadl us d),(zacD)]) [1048577,1048580])/\Ex.exit 0=Ex.exit 0/\Wk (zafr) (zafr)/\SameH (hpL z1) (hpL z1))))))):=by kernel_rfl
def zaFr:Orc:=HT (Orc.t (Orc.t (Orc.t (Orc.t Orc.z))))
theorem zaAX (a:Int)(x:ByteArray)(r:List AV)(d:Int)(n q:Nd)(us zs:List AV)(m:Nd)(fk fa:Int):cR7F zaFr a x r d n q us zs m fk fa=(let z1:List (Nat × Ent):=[(1048579,{ id:=[2,0],obj:=AObj.map true (zadU) [i0 2,i0 3] }),eR 1048577 [0,0] 5 [encP m],eR 1048580 [3,0] 2 [AV.agg [L3 zs,i0 d]],(zacD)];Yt4 (Yt ((zafQ)=true/\Yt (Yt (Yt ((decide ((0:Int)<=(1:Int)/\(1:Int)<=(↑(List.length (AV.agg [i0 7,i0 a,s0 x]::r)):Int))&&Nat.beq 3 3)=true/\∃ (_:Unit),(True/\Wks [AV.ptr 1048577 [0,0] 0 0] [AV.ptr 1048577 [0,0] 0 0]/\hpL [eR 1048577 [0,0] 2 [AV.agg [L3 (List.drop 1 (AV.agg [i0 7,i0 a,s0 x]::r)),i0 d]]]=hpL [eR 1048577 [0,0] 2 [AV.agg [L3 r,i0 d]]])/\(zafQ)=true/\∃ (_:Unit),(True/\Wks (zakE) (zakE)/\HW (hpL [(1048579,{ id:=[2,0],obj:=AObj.map true (zadU) [i0 2,i0 3] }),eR 1048577 [0,0] 5 [AV.agg [i0 2,i0 a,i0 0,s0 ⟨⟨[]⟩⟩,AV.lst true 5 [encP n,encP q]]],(zadl us d),(zacD)]) (hpL [(1048579,{ id:=[2,0],obj:=AObj.map true (zadU) [i0 2,i0 3] }),eR 1048577 [0,0] 5 [AV.agg [i0 2,i0 a,i0 0,s0 ByteArray.empty,L5 [encP n,encP q]]],(zadl us d),(zacD)]) [1048577,1048580])/\Ex.exit 0=Ex.exit 0/\Wk (zakD fa fk) (zakD fa fk)/\SameH (hpL z1) (hpL z1))))))):=by kernel_rfl
def zaFs:Orc:=HT (Orc.t (Orc.t (Orc.t (Orc.t Orc.z))))
theorem zaAZ (a:Int)(x:ByteArray)(r:List AV)(d:Int)(n q:Nd)(us zs:List AV)(m:Nd)(ek ea:Int)(fk fa:Int):cR7E zaFs a x r d n q us zs m ek ea fk fa=(let z1:List (Nat × Ent):=[(1048579,{ id:=[2,0],obj:=AObj.map true (zadU) [i0 2,i0 3] }),eR 1048577 [0,0] 5 [encP m],eR 1048580 [3,0] 2 [AV.agg [L3 zs,i0 d]],(zacD)];Yt4 (Yt ((zafQ)=true/\Yt (Yt (Yt ((decide ((0:Int)<=(1:Int)/\(1:Int)<=(↑(List.length (AV.agg [i0 7,i0 a,s0 x]::r)):Int))&&Nat.beq 3 3)=true/\∃ (_:Unit),(True/\Wks [AV.ptr 1048577 [0,0] 0 0] [AV.ptr 1048577 [0,0] 0 0]/\hpL [eR 1048577 [0,0] 2 [AV.agg [L3 (List.drop 1 (AV.agg [i0 7,i0 a,s0 x]::r)),i0 d]]]=hpL [eR 1048577 [0,0] 2 [AV.agg [L3 r,i0 d]]])/\(zafQ)=true/\∃ (_:Unit),(True/\Wks (zaj9 ea ek) (zaj9 ea ek)/\HW (hpL [(1048579,{ id:=[2,0],obj:=AObj.map true (zadU) [i0 2,i0 3] }),eR 1048577 [0,0] 5 [AV.agg [i0 2,i0 a,i0 0,s0 ⟨⟨[]⟩⟩,AV.lst true 5 [encP n,encP q]]],(zadl us d),(zacD)]) (hpL [(1048579,{ id:=[2,0],obj:=AObj.map true (zadU) [i0 2,i0 3] }),eR 1048577 [0,0] 5 [AV.agg [i0 2,i0 a,i0 0,s0 ByteArray.empty,L5 [encP n,encP q]]],(zadl us d),(zacD)]) [1048577,1048580])/\Ex.exit 0=Ex.exit 0/\Wk (zakD fa fk) (zakD fa fk)/\SameH (hpL z1) (hpL z1))))))):=by kernel_rfl
def zaFn:Orc:=HT (Orc.t (Orc.t (Orc.t (Orc.t Orc.z))))
theorem zaAP (a:Int)(x:ByteArray)(r:List AV)(d:Int)(n q:Nd)(us zs:List AV)(m:Nd):cR8N zaFn a x r d n q us zs m=(let z1:List (Nat × Ent):=[(1048579,{ id:=[2,0],obj:=AObj.map true (zadU) [i0 2,i0 3] }),eR 1048577 [0,0] 5 [encP m],eR 1048580 [3,0] 2 [AV.agg [L3 zs,i0 d]],(zacD)];Yt4 (Yt ((zafQ)=true/\Yt (Yt (Yt ((decide ((0:Int)<=(1:Int)/\(1:Int)<=(↑(List.length (AV.agg [i0 8,i0 a,s0 x]::r)):Int))&&Nat.beq 3 3)=true/\∃ (_:Unit),(True/\Wks [AV.ptr 1048577 [0,0] 0 0] [AV.ptr 1048577 [0,0] 0 0]/\hpL [eR 1048577 [0,0] 2 [AV.agg [L3 (List.drop 1 (AV.agg [i0 8,i0 a,s0 x]::r)),i0 d]]]=hpL [eR 1048577 [0,0] 2 [AV.agg [L3 r,i0 d]]])/\(zafQ)=true/\∃ (_:Unit),(True/\Wks (zakE) (zakE)/\HW (hpL [(1048579,{ id:=[2,0],obj:=AObj.map true (zadU) [i0 2,i0 3] }),eR 1048577 [0,0] 5 [AV.agg [i0 3,i0 a,i0 0,s0 ⟨⟨[]⟩⟩,AV.lst true 5 [encP n,encP q]]],(zadl us d),(zacD)]) (hpL [(1048579,{ id:=[2,0],obj:=AObj.map true (zadU) [i0 2,i0 3] }),eR 1048577 [0,0] 5 [AV.agg [i0 3,i0 a,i0 0,s0 ByteArray.empty,L5 [encP n,encP q]]],(zadl us d),(zacD)]) [1048577,1048580])/\Ex.exit 0=Ex.exit 0/\Wk (zafr) (zafr)/\SameH (hpL z1) (hpL z1))))))):=by kernel_rfl
def zaFo:Orc:=HT (Orc.t (Orc.t (Orc.t (Orc.t Orc.z))))
theorem zaAR (a:Int)(x:ByteArray)(r:List AV)(d:Int)(n q:Nd)(us zs:List AV)(m:Nd)(fk fa:Int):cR8F zaFo a x r d n q us zs m fk fa=(let z1:List (Nat × Ent):=[(1048579,{ id:=[2,0],obj:=AObj.map true (zadU) [i0 2,i0 3] }),eR 1048577 [0,0] 5 [encP m],eR 1048580 [3,0] 2 [AV.agg [L3 zs,i0 d]],(zacD)];Yt4 (Yt ((zafQ)=true/\Yt (Yt (Yt ((decide ((0:Int)<=(1:Int)/\(1:Int)<=(↑(List.length (AV.agg [i0 8,i0 a,s0 x]::r)):Int))&&Nat.beq 3 3)=true/\∃ (_:Unit),(True/\Wks [AV.ptr 1048577 [0,0] 0 0] [AV.ptr 1048577 [0,0] 0 0]/\hpL [eR 1048577 [0,0] 2 [AV.agg [L3 (List.drop 1 (AV.agg [i0 8,i0 a,s0 x]::r)),i0 d]]]=hpL [eR 1048577 [0,0] 2 [AV.agg [L3 r,i0 d]]])/\(zafQ)=true/\∃ (_:Unit),(True/\Wks (zakE) (zakE)/\HW (hpL [(1048579,{ id:=[2,0],obj:=AObj.map true (zadU) [i0 2,i0 3] }),eR 1048577 [0,0] 5 [AV.agg [i0 3,i0 a,i0 0,s0 ⟨⟨[]⟩⟩,AV.lst true 5 [encP n,encP q]]],(zadl us d),(zacD)]) (hpL [(1048579,{ id:=[2,0],obj:=AObj.map true (zadU) [i0 2,i0 3] }),eR 1048577 [0,0] 5 [AV.agg [i0 3,i0 a,i0 0,s0 ByteArray.empty,L5 [encP n,encP q]]],(zadl us d),(zacD)]) [1048577,1048580])/\Ex.exit 0=Ex.exit 0/\Wk (zakD fa fk) (zakD fa fk)/\SameH (hpL z1) (hpL z1))))))):=by kernel_rfl
def zaFp:Orc:=HT (Orc.t (Orc.t (Orc.t (Orc.t Orc.z))))
theorem zaAT (a:Int)(x:ByteArray)(r:List AV)(d:Int)(n q:Nd)(us zs:List AV)(m:Nd)(ek ea:Int)(fk fa:Int):cR8E zaFp a x r d n q us zs m ek ea fk fa=(let z1:List (Nat × Ent):=[(1048579,{ id:=[2,0],obj:=AObj.map true (zadU) [i0 2,i0 3] }),eR 1048577 [0,0] 5 [encP m],eR 1048580 [3,0] 2 [AV.agg [L3 zs,i0 d]],(zacD)];Yt4 (Yt ((zafQ)=true/\Yt (Yt (Yt ((decide ((0:Int)<=(1:Int)/\(1:Int)<=(↑(List.length (AV.agg [i0 8,i0 a,s0 x]::r)):Int))&&Nat.beq 3 3)=true/\∃ (_:Unit),(True/\Wks [AV.ptr 1048577 [0,0] 0 0] [AV.ptr 1048577 [0,0] 0 0]/\hpL [eR 1048577 [0,0] 2 [AV.agg [L3 (List.drop 1 (AV.agg [i0 8,i0 a,s0 x]::r)),i0 d]]]=hpL [eR 1048577 [0,0] 2 [AV.agg [L3 r,i0 d]]])/\(zafQ)=true/\∃ (_:Unit),(True/\Wks (zaj9 ea ek) (zaj9 ea ek)/\HW (hpL [(1048579,{ id:=[2,0],obj:=AObj.map true (zadU) [i0 2,i0 3] }),eR 1048577 [0,0] 5 [AV.agg [i0 3,i0 a,i0 0,s0 ⟨⟨[]⟩⟩,AV.lst true 5 [encP n,encP q]]],(zadl us d),(zacD)]) (hpL [(1048579,{ id:=[2,0],obj:=AObj.map true (zadU) [i0 2,i0 3] }),eR 1048577 [0,0] 5 [AV.agg [i0 3,i0 a,i0 0,s0 ByteArray.empty,L5 [encP n,encP q]]],(zadl us d),(zacD)]) [1048577,1048580])/\Ex.exit 0=Ex.exit 0/\Wk (zakD fa fk) (zakD fa fk)/\SameH (hpL z1) (hpL z1))))))):=by kernel_rfl
def zaFk:Orc:=HT (Orc.t (Orc.t (Orc.t (Orc.t Orc.z))))
theorem zaAJ (a:Int)(x:ByteArray)(r:List AV)(d:Int)(n q:Nd)(us zs:List AV)(m:Nd):cR9N zaFk a x r d n q us zs m=(let z1:List (Nat × Ent):=[(1048579,{ id:=[2,0],obj:=AObj.map true [Value.int IntKind.i64 9] [i0 4] }),eR 1048577 [0,0] 5 [encP m],eR 1048580 [3,0] 2 [AV.agg [L3 zs,i0 d]],(zacD)];Yt4 (Yt ((zafQ)=true/\Yt (Yt (Yt ((decide ((0:Int)<=(1:Int)/\(1:Int)<=(↑(List.length (AV.agg [i0 9,i0 a,s0 x]::r)):Int))&&Nat.beq 3 3)=true/\∃ (_:Unit),(True/\Wks [AV.ptr 1048577 [0,0] 0 0] [AV.ptr 1048577 [0,0] 0 0]/\hpL [eR 1048577 [0,0] 2 [AV.agg [L3 (List.drop 1 (AV.agg [i0 9,i0 a,s0 x]::r)),i0 d]]]=hpL [eR 1048577 [0,0] 2 [AV.agg [L3 r,i0 d]]])/\(zafQ)=true/\∃ (_:Unit),(True/\Wks (zap1) (zap1)/\HW (hpL [(1048579,{ id:=[2,0],obj:=AObj.map true [Value.int IntKind.i64 9] [i0 4] }),eR 1048577 [0,0] 5 [AV.agg [i0 4,i0 a,i0 0,s0 ⟨⟨[]⟩⟩,AV.lst true 5 [encP n,encP q]]],(zadl us d),(zacD)]) (hpL [(1048579,{ id:=[2,0],obj:=AObj.map true [Value.int IntKind.i64 9] [i0 4] }),eR 1048577 [0,0] 5 [AV.agg [i0 4,i0 a,i0 0,s0 ByteArray.empty,L5 [encP n,encP q]]],(zadl us d),(zacD)]) [1048577,1048580])/\Ex.exit 0=Ex.exit 0/\Wk (zafr) (zafr)/\SameH (hpL z1) (hpL z1))))))):=by kernel_rfl
def zaFl:Orc:=HT (Orc.t (Orc.t (Orc.t (Orc.t Orc.z))))
theorem zaAL (a:Int)(x:ByteArray)(r:List AV)(d:Int)(n q:Nd)(us zs:List AV)(m:Nd)(fk fa:Int):cR9F zaFl a x r d n q us zs m fk fa=(let z1:List (Nat × Ent):=[(1048579,{ id:=[2,0],obj:=AObj.map true [Value.int IntKind.i64 9] [i0 4] }),eR 1048577 [0,0] 5 [encP m],eR 1048580 [3,0] 2 [AV.agg [L3 zs,i0 d]],(zacD)];Yt4 (Yt ((zafQ)=true/\Yt (Yt (Yt ((decide ((0:Int)<=(1:Int)/\(1:Int)<=(↑(List.length (AV.agg [i0 9,i0 a,s0 x]::r)):Int))&&Nat.beq 3 3)=true/\∃ (_:Unit),(True/\Wks [AV.ptr 1048577 [0,0] 0 0] [AV.ptr 1048577 [0,0] 0 0]/\hpL [eR 1048577 [0,0] 2 [AV.agg [L3 (List.drop 1 (AV.agg [i0 9,i0 a,s0 x]::r)),i0 d]]]=hpL [eR 1048577 [0,0] 2 [AV.agg [L3 r,i0 d]]])/\(zafQ)=true/\∃ (_:Unit),(True/\Wks (zap1) (zap1)/\HW (hpL [(1048579,{ id:=[2,0],obj:=AObj.map true [Value.int IntKind.i64 9] [i0 4] }),eR 1048577 [0,0] 5 [AV.agg [i0 4,i0 a,i0 0,s0 ⟨⟨[]⟩⟩,AV.lst true 5 [encP n,encP q]]],(zadl us d),(zacD)]) (hpL [(1048579,{ id:=[2,0],obj:=AObj.map true [Value.int IntKind.i64 9] [i0 4] }),eR 1048577 [0,0] 5 [AV.agg [i0 4,i0 a,i0 0,s0 ByteArray.empty,L5 [encP n,encP q]]],(zadl us d),(zacD)]) [1048577,1048580])/\Ex.exit 0=Ex.exit 0/\Wk (zakD fa fk) (zakD fa fk)/\SameH (hpL z1) (hpL z1))))))):=by kernel_rfl
def zaFm:Orc:=HT (Orc.t (Orc.t (Orc.t (Orc.t Orc.z))))
theorem zaAN (a:Int)(x:ByteArray)(r:List AV)(d:Int)(n q:Nd)(us zs:List AV)(m:Nd)(ek ea:Int)(fk fa:Int):cR9E zaFm a x r d n q us zs m ek ea fk fa=(let z1:=[AV.ptr 1048580 [3,0] 0 0,AV.mp 1048579 [2,0],AV.fn (Fn.func 116) [AV.ptr 1048580 [3,0] 0 0] [],AV.ptr 1048578 [1,0] 0 0,AV.ptr 1048577 [0,0] 0 0,(zadu ea ek)];let z2:List (Nat × Ent):=[(1048579,{ id:=[2,0],obj:=AObj.map true [Value.int IntKind.i64 9] [i0 4] }),eR 1048577 [0,0] 5 [encP m],eR 1048580 [3,0] 2 [AV.agg [L3 zs,i0 d]],(zacD)];Yt4 (Yt ((zafQ)=true/\Yt (Yt (Yt ((decide ((0:Int)<=(1:Int)/\(1:Int)<=(↑(List.length (AV.agg [i0 9,i0 a,s0 x]::r)):Int))&&Nat.beq 3 3)=true/\∃ (_:Unit),(True/\Wks [AV.ptr 1048577 [0,0] 0 0] [AV.ptr 1048577 [0,0] 0 0]/\hpL [eR 1048577 [0,0] 2 [AV.agg [L3 (List.drop 1 (AV.agg [i0 9,i0 a,s0 x]::r)),i0 d]]]=hpL [eR 1048577 [0,0] 2 [AV.agg [L3 r,i0 d]]])/\(zafQ)=true/\∃ (_:Unit),(True/\Wks z1 z1/\HW (hpL [(1048579,{ id:=[2,0],obj:=AObj.map true [Value.int IntKind.i64 9] [i0 4] }),eR 1048577 [0,0] 5 [AV.agg [i0 4,i0 a,i0 0,s0 ⟨⟨[]⟩⟩,AV.lst true 5 [encP n,encP q]]],(zadl us d),(zacD)]) (hpL [(1048579,{ id:=[2,0],obj:=AObj.map true [Value.int IntKind.i64 9] [i0 4] }),eR 1048577 [0,0] 5 [AV.agg [i0 4,i0 a,i0 0,s0 ByteArray.empty,L5 [encP n,encP q]]],(zadl us d),(zacD)]) [1048577,1048580])/\Ex.exit 0=Ex.exit 0/\Wk (zakD fa fk) (zakD fa fk)/\SameH (hpL z2) (hpL z2))))))):=by kernel_rfl
theorem zazO (ts us:List AV)(d:Int)(q:Nd)(zs:List AV)(m:Nd):gExN (Orc.z) ts us d q zs m=(let z1:=(hpL [eR 1048577 [0,0] 2 [AV.agg [L3 zs,i0 d]]]);let z2:=(AV.tup [encP m,AV.lit Value.nilIface]);∃ (_:Unit),(zauN ts d)/\∃ (_:Unit),(True/\Wks (zakE) (zakE)/\HW (hpL [(1048579,{ id:=[2,0],obj:=AObj.map true (zadU) [i0 2,i0 3] }),eR 1048577 [0,0] 5 [encP q],(zadl us d),eR 1048578 [1,0] 5 [AV.agg [i0 0,i0 0,i0 0,s0 ⟨⟨[]⟩⟩,AV.lit (Value.slice none 0 0)]]]) (hpL [(1048579,{ id:=[2,0],obj:=AObj.map true (zadU) [i0 2,i0 3] }),eR 1048577 [0,0] 5 [encP q],(zadl us d),(zacD)]) [1048577,1048580])/\Wk z2 z2/\SameH z1 z1):=by kernel_rfl
theorem zazQ (ts us:List AV)(d:Int)(q:Nd)(zs:List AV)(m:Nd)(fk fa:Int):gExF (Orc.z) ts us d q zs m fk fa=(let z1:=(AV.tup [encP m,AV.iface 118 (AV.ref (AV.agg [i0 fa,AV.iface 26 (i0 fk)]))]);let z2:=(hpL [eR 1048577 [0,0] 2 [AV.agg [L3 zs,i0 d]]]);∃ (_:Unit),(zauN ts d)/\∃ (_:Unit),(True/\Wks (zakE) (zakE)/\HW (hpL [(1048579,{ id:=[2,0],obj:=AObj.map true (zadU) [i0 2,i0 3] }),eR 1048577 [0,0] 5 [encP q],(zadl us d),eR 1048578 [1,0] 5 [AV.agg [i0 0,i0 0,i0 0,s0 ⟨⟨[]⟩⟩,AV.lit (Value.slice none 0 0)]]]) (hpL [(1048579,{ id:=[2,0],obj:=AObj.map true (zadU) [i0 2,i0 3] }),eR 1048577 [0,0] 5 [encP q],(zadl us d),(zacD)]) [1048577,1048580])/\Wk z1 z1/\SameH z2 z2):=by kernel_rfl
theorem zazS (ts us:List AV)(d:Int)(q:Nd)(zs:List AV)(m:Nd)(ek ea:Int)(fk fa:Int):gExE (Orc.z) ts us d q zs m ek ea fk fa=(let z1:=(AV.tup [encP m,AV.iface 118 (AV.ref (AV.agg [i0 fa,AV.iface 26 (i0 fk)]))]);let z2:=(hpL [eR 1048577 [0,0] 2 [AV.agg [L3 zs,i0 d]]]);∃ (_:Unit),(zauN ts d)/\∃ (_:Unit),(True/\Wks (zaj9 ea ek) (zaj9 ea ek)/\HW (hpL [(1048579,{ id:=[2,0],obj:=AObj.map true (zadU) [i0 2,i0 3] }),eR 1048577 [0,0] 5 [encP q],(zadl us d),eR 1048578 [1,0] 5 [AV.agg [i0 0,i0 0,i0 0,s0 ⟨⟨[]⟩⟩,AV.lit (Value.slice none 0 0)]]]) (hpL [(1048579,{ id:=[2,0],obj:=AObj.map true (zadU) [i0 2,i0 3] }),eR 1048577 [0,0] 5 [encP q],(zadl us d),(zacD)]) [1048577,1048580])/\Wk z1 z1/\SameH z2 z2):=by kernel_rfl
theorem zayD (ts us:List AV)(d:Int)(q:Nd)(zs:List AV)(m:Nd):gTeN (Orc.z) ts us d q zs m=(let z1:=(hpL [eR 1048577 [0,0] 2 [AV.agg [L3 zs,i0 d]]]);let z2:=(AV.tup [encP m,AV.lit Value.nilIface]);∃ (_:Unit),(zauN ts d)/\∃ (_:Unit),(True/\Wks (zap1) (zap1)/\HW (hpL [(1048579,{ id:=[2,0],obj:=AObj.map true [Value.int IntKind.i64 9] [i0 4] }),eR 1048577 [0,0] 5 [encP q],(zadl us d),eR 1048578 [1,0] 5 [AV.agg [i0 0,i0 0,i0 0,s0 ⟨⟨[]⟩⟩,AV.lit (Value.slice none 0 0)]]]) (hpL [(1048579,{ id:=[2,0],obj:=AObj.map true [Value.int IntKind.i64 9] [i0 4] }),eR 1048577 [0,0] 5 [encP q],(zadl us d),(zacD)]) [1048577,1048580])/\Wk z2 z2/\SameH z1 z1):=by kernel_rfl
theorem zayF (ts us:List AV)(d:Int)(q:Nd)(zs:List AV)(m:Nd)(fk fa:Int):gTeF (Orc.z) ts us d q zs m fk fa=(let z1:=(AV.tup [encP m,AV.iface 118 (AV.ref (AV.agg [i0 fa,AV.iface 26 (i0 fk)]))]);let z2:=(hpL [eR 1048577 [0,0] 2 [AV.agg [L3 zs,i0 d]]]);∃ (_:Unit),(zauN ts d)/\∃ (_:Unit),(True/\Wks (zap1) (zap1)/\HW (hpL [(1048579,{ id:=[2,0],obj:=AObj.map true [Value.int IntKind.i64 9] [i0 4] }),eR 1048577 [0,0] 5 [encP q],(zadl us d),eR 1048578 [1,0] 5 [AV.agg [i0 0,i0 0,i0 0,s0 ⟨⟨[]⟩⟩,AV.lit (Value.slice none 0 0)]]]) (hpL [(1048579,{ id:=[2,0],obj:=AObj.map true [Value.int IntKind.i64 9] [i0 4] }),eR 1048577 [0,0] 5 [encP q],(zadl us d),(zacD)]) [1048577,1048580])/\Wk z1 z1/\SameH z2 z2):=by kernel_rfl
theorem zayH (ts us:List AV)(d:Int)(q:Nd)(zs:List AV)(m:Nd)(ek ea:Int)(fk fa:Int):gTeE (Orc.z) ts us d q zs m ek ea fk fa=(let z1:=[AV.ptr 1048580 [3,0] 0 0,AV.mp 1048579 [2,0],AV.fn (Fn.func 116) [AV.ptr 1048580 [3,0] 0 0] [],AV.ptr 1048578 [1,0] 0 0,AV.ptr 1048577 [0,0] 0 0,(zadu ea ek)];let z2:=(AV.tup [encP m,AV.iface 118 (AV.ref (AV.agg [i0 fa,AV.iface 26 (i0 fk)]))]);let z3:=(hpL [eR 1048577 [0,0] 2 [AV.agg [L3 zs,i0 d]]]);∃ (_:Unit),(zauN ts d)/\∃ (_:Unit),(True/\Wks z1 z1/\HW (hpL [(1048579,{ id:=[2,0],obj:=AObj.map true [Value.int IntKind.i64 9] [i0 4] }),eR 1048577 [0,0] 5 [encP q],(zadl us d),eR 1048578 [1,0] 5 [AV.agg [i0 0,i0 0,i0 0,s0 ⟨⟨[]⟩⟩,AV.lit (Value.slice none 0 0)]]]) (hpL [(1048579,{ id:=[2,0],obj:=AObj.map true [Value.int IntKind.i64 9] [i0 4] }),eR 1048577 [0,0] 5 [encP q],(zadl us d),(zacD)]) [1048577,1048580])/\Wk z2 z2/\SameH z3 z3):=by kernel_rfl
end Go.Proofs.YtpofhijgccocpaaGreatDoor
end
section
namespace Go.Proofs.YtpofhijgccocpaaGreatDoor
open Go Go.AS Go.TP
noncomputable section
theorem zaHB (x:AV)(r:List AV):(decide ((0:Int)<=(1:Int)/\(1:Int)<=((List.length (x::r):Nat):Int))&&true)=true:=by grind
variable {k a n t:AV}
theorem zava {ks:List AV}:Wk (.agg [k,a,n,t,.lst true 5 ks]) (.agg [k,a,n,t,.lst false 5 ks]) :=
 .agg (.cons (.refl _) (.cons (.refl _) (.cons (.refl _) (.cons (.refl _) (.cons .lst .nil)))))
theorem zav:Wk (.agg [k,a,n,t,.lit (.slice none 0 0)]) (.agg [k,a,n,t,.lst false 5 []]) :=
 .agg (.cons (.refl _) (.cons (.refl _) (.cons (.refl _) (.cons (.refl _) (.cons .nilS .nil)))))
theorem zaCz {m p z:Nat × Ent}{i:Go.AS.Id}{ks:List AV}:HW (hpL [m,(1048577,⟨i,.row true 5 [.agg [k,a,n,t,.lst true 5 ks]]⟩),p,z]) (hpL [m,(1048577,⟨i,.row true 5 [.agg [k,a,n,t,.lst false 5 ks]]⟩),p,z]) [1048577,1048580] :=
 .cons (.row (by simp) (.cons zava .nil) (.cons (.cons (.nil _))))
theorem goP {p:Prop}(h:p:=by repeat' first|exact rfl|assumption|exact .refl _|exact .rfl|exact zaHB _ _|exact Nat.le_refl 2|exact zaag (by omega) (by omega)|exact .tup (.cons zava (.refl _))|exact .tup (.cons zav (.refl _))|refine ⟨(),⟨trivial,.refl _,rfl⟩,?_⟩|refine ⟨(),⟨trivial,.refl _,.refl _ _⟩,?_⟩|refine ⟨(),⟨trivial,.refl _,zaCz⟩,?_⟩|refine And.intro ?_ ?_):p:=h
theorem zaBf (k:Int)(a:Int)(x:ByteArray)(r:List AV)(d:Int)(t0:(k==(2:Int))=false)(t1:(k==(1:Int))=false)(h0:0<=d)(h1:d<=24):aBad (Orc.f (Orc.f (Orc.f Orc.z))) k a x r d:=by
 rw [zaBe]
 exact goP
theorem zauz (a:Int)(x:ByteArray)(r:List AV):zaGw zaxh a x r:=by
 rw [zauy]
 exact goP
theorem zauv (a:Int)(x:ByteArray)(r:List AV)(d:Int)(q:Nd)(a':Int)(x':ByteArray)(r':List AV)(t0:(d==(24:Int))=false)(h0:0<=d)(h1:d<=24):zaGu zaxf a x r d q a' x' r':=by
 rw [zauu]
 have e:d+(1:Int)-(1:Int)=d:=by omega
 rw [e]
 exact goP
theorem zapk (a:Int)(x:ByteArray)(r:List AV)(d:Int)(q:Nd)(k':Int)(a':Int)(x':ByteArray)(r':List AV)(t0:(d==(24:Int))=false)(t1:(k' != (3:Int))=true)(h0:0<=d)(h1:d<=24):zaA6 zaqm a x r d q k' a' x' r':=by
 rw [zapj]
 have e:d+(1:Int)-(1:Int)=d:=by omega
 rw [e]
 exact goP
theorem zapm (a:Int)(x:ByteArray)(r:List AV)(d:Int)(q:Nd)(ek:Int)(ea:Int)(ts':List AV)(t0:(d==(24:Int))=false)(h0:0<=d)(h1:d<=24):zaA7 zaqn a x r d q ek ea ts':=by
 rw [zapl]
 have e:d+(1:Int)-(1:Int)=d:=by omega
 rw [e]
 exact goP
theorem zaux (a:Int)(x:ByteArray)(k':Int)(a':Int)(x':ByteArray)(r:List AV)(d:Int)(t0:(k'==(2:Int))=false)(h0:0<=d)(h1:d<=24):zaGv zaxg a x k' a' x' r d:=by
 rw [zauw]
 exact goP
theorem zapo (a:Int)(x:ByteArray)(k':Int)(a':Int)(x':ByteArray)(r:List AV)(d:Int)(t0:(k'==(2:Int))=false)(h0:0<=d)(h1:d<=24):zaA8 zaqo a x k' a' x' r d:=by
 rw [zapn]
 exact goP
theorem zapA (a:Int)(x:ByteArray)(a':Int)(x':ByteArray)(r:List AV)(d:Int)(h0:0<=d)(h1:d<=24):zaBd zaqu a x a' x' r d:=by
 rw [zapz]
 exact goP
theorem zaps (a:Int)(x:ByteArray)(v:Int)(a':Int)(x':ByteArray)(r:List AV)(t0:(v==(0:Int))=false):zaB zaqq a x v a' x' r:=by
 rw [zapr]
 exact goP
theorem zapy (a:Int)(x:ByteArray)(a':Int)(x':ByteArray)(c:Int)(y:ByteArray)(r:List AV)(d:Int)(t0:(d==(24:Int))=false)(h0:0<=d)(h1:d<=24):zaBc zaqt a x a' x' c y r d:=by
 rw [zapx]
 have e:d+(1:Int)-(1:Int)=d:=by omega
 rw [e]
 exact goP
theorem zank (a:Int)(x:ByteArray)(a':Int)(x':ByteArray)(kc:Int)(c:Int)(y:ByteArray)(r:List AV)(d:Int)(t0:(d==(24:Int))=false)(t1:(kc != (3:Int))=true)(h0:0<=d)(h1:d<=24):zaq7 zal2 a x a' x' kc c y r d:=by
 rw [zanj]
 have e:d+(1:Int)-(1:Int)=d:=by omega
 rw [e]
 exact goP
theorem zapq (a:Int)(x:ByteArray)(v:Int)(a':Int)(x':ByteArray)(r:List AV)(d:Int)(q:Nd)(ek:Int)(ea:Int)(ts':List AV)(t0:(v==(0:Int))=false)(t1:(d==(24:Int))=false)(t2:(v==(1:Int))=false)(h0:0<=d)(h1:d<=24):zaA9 zaqp a x v a' x' r d q ek ea ts':=by
 rw [zapp]
 have e:d+(1:Int)-(1:Int)=d:=by omega
 rw [e]
 exact goP
theorem zapw (a:Int)(x:ByteArray)(a':Int)(x':ByteArray)(r:List AV)(d:Int)(q:Nd)(c:Int)(y:ByteArray)(r':List AV)(t0:(d==(24:Int))=false)(h0:0<=d)(h1:d<=24):zaBb zaqs a x a' x' r d q c y r':=by
 rw [zapv]
 have e:d+(1:Int)-(1:Int)=d:=by omega
 rw [e]
 exact goP
theorem zani (a:Int)(x:ByteArray)(a':Int)(x':ByteArray)(r:List AV)(d:Int)(q:Nd)(kc:Int)(c:Int)(y:ByteArray)(r':List AV)(t0:(d==(24:Int))=false)(t1:(kc != (3:Int))=true)(h0:0<=d)(h1:d<=24):zaq6 zal1 a x a' x' r d q kc c y r':=by
 rw [zanh]
 have e:d+(1:Int)-(1:Int)=d:=by omega
 rw [e]
 exact goP
theorem zang (a:Int)(x:ByteArray)(a':Int)(x':ByteArray)(r:List AV)(d:Int)(q:Nd)(kc:Int)(c:Int)(y:ByteArray)(r':List AV)(t0:(d==(24:Int))=false)(t1:(kc != (4:Int))=true)(h0:0<=d)(h1:d<=24):zaq5 zal0 a x a' x' r d q kc c y r':=by
 rw [zanf]
 have e:d+(1:Int)-(1:Int)=d:=by omega
 rw [e]
 exact goP
theorem zane (a:Int)(x:ByteArray)(a':Int)(x':ByteArray)(r:List AV)(d:Int)(q:Nd)(c:Int)(y:ByteArray)(kn:Int)(an:Int)(xn:ByteArray)(m:Int)(r':List AV)(t0:(d==(24:Int))=false)(h0:0<=d)(h1:d<=24):zaq4 zalZ a x a' x' r d q c y kn an xn m r':=by
 rw [zand]
 have e:d+(1:Int)-(1:Int)=d:=by omega
 rw [e]
 exact goP
theorem zapu (a:Int)(x:ByteArray)(a':Int)(x':ByteArray)(r:List AV)(d:Int)(q:Nd)(c:Int)(y:ByteArray)(an:Int)(xn:ByteArray)(m:Int)(z:Int)(w:ByteArray)(r':List AV)(t0:(d==(24:Int))=false)(h0:0<=d)(h1:d<=24):zaBa zaqr a x a' x' r d q c y an xn m z w r':=by
 rw [zapt]
 have e:d+(1:Int)-(1:Int)=d:=by omega
 rw [e]
 exact goP
theorem zanc (a:Int)(x:ByteArray)(a':Int)(x':ByteArray)(r:List AV)(d:Int)(q:Nd)(c:Int)(y:ByteArray)(an:Int)(xn:ByteArray)(m:Int)(kz:Int)(z:Int)(w:ByteArray)(r':List AV)(t0:(d==(24:Int))=false)(t1:(kz != (3:Int))=true)(h0:0<=d)(h1:d<=24):zaq3 zalY a x a' x' r d q c y an xn m kz z w r':=by
 rw [zanb]
 have e:d+(1:Int)-(1:Int)=d:=by omega
 rw [e]
 exact goP
theorem zasN (a:Int)(x:ByteArray)(r:List AV)(d:Int)(h0:0<=d)(h1:d<=24):zaFz (Orc.t Orc.z) a x r d:=by
 rw [zasM]
 exact goP
theorem zaGL (a:Int)(x:ByteArray)(r:List AV):uD (Orc.t (Orc.f Orc.z)) a x r:=by
 rw [zaGK]
 exact goP
theorem zaGH (a:Int)(x:ByteArray)(r:List AV)(d:Int)(q:Nd)(ts':List AV)(t0:(d==(24:Int))=false)(h0:0<=d)(h1:d<=24):uN (Orc.f Orc.z) a x r d q ts':=by
 rw [zaGG];delta zabc
 have e:d+(1:Int)-(1:Int)=d:=by omega
 rw [e]
 exact goP
theorem zaGJ (a:Int)(x:ByteArray)(r:List AV)(d:Int)(q:Nd)(ek:Int)(ea:Int)(ts':List AV)(t0:(d==(24:Int))=false)(h0:0<=d)(h1:d<=24):uE (Orc.f Orc.z) a x r d q ek ea ts':=by
 rw [zaGI];delta zadu zabc
 have e:d+(1:Int)-(1:Int)=d:=by omega
 rw [e]
 exact goP
theorem zavN (a:Int)(x:ByteArray)(r:List AV)(d:Int)(q:Nd)(ts':List AV)(h0:0<=d)(h1:d<=24):rUpN (Orc.t Orc.z) a x r d q ts':=by
 rw [zavM]
 exact goP
theorem zapV (a:Int)(x:ByteArray)(r:List AV)(d:Int)(q:Nd)(ek:Int)(ea:Int)(ts':List AV)(h0:0<=d)(h1:d<=24):rUpE (Orc.t Orc.z) a x r d q ek ea ts':=by
 rw [zavO];delta zadu zabc
 exact goP
theorem zawt (k:Int)(a:Int)(x:ByteArray)(r:List AV)(d:Int)(q:Nd)(ek:Int)(ea:Int)(ts':List AV)(t0:(k==(5:Int))=false)(h0:0<=d)(h1:d<=24):rAtE (Orc.f (Orc.t Orc.z)) k a x r d q ek ea ts':=by
 rw [zaws];delta zag1 zadu zabc
 exact goP
theorem zawv (k:Int)(a:Int)(x:ByteArray)(r:List AV)(d:Int)(q:Nd)(k':Int)(a':Int)(x':ByteArray)(r':List AV)(t0:(k==(5:Int))=false)(t1:(k'==(5:Int))=false)(t2:(k'==(6:Int))=false)(h0:0<=d)(h1:d<=24):rAt0 zaEv k a x r d q k' a' x' r':=by
 rw [zawu]
 exact goP
theorem zasm (k:Int)(a:Int)(x:ByteArray)(r:List AV)(q:Nd)(a':Int)(x':ByteArray)(r':List AV)(t0:(k==(5:Int))=false):zaEe zawT k a x r q a' x' r':=by
 rw [zasl]
 exact goP
theorem zask (k:Int)(a:Int)(x:ByteArray)(r:List AV)(d:Int)(q:Nd)(a':Int)(x':ByteArray)(k2:Int)(a2:Int)(x2:ByteArray)(r':List AV)(t0:(k==(5:Int))=false)(t1:(d==(24:Int))=false)(t2:(k2==(2:Int))=false)(t3:(k2==(1:Int))=false)(h0:0<=d)(h1:d<=24):zaEd zawS k a x r d q a' x' k2 a2 x2 r':=by
 rw [zasj]
 have e:d+(1:Int)-(1:Int)=d:=by omega
 rw [e]
 exact goP
theorem zan4 (k:Int)(a:Int)(x:ByteArray)(r:List AV)(d:Int)(q:Nd)(a':Int)(x':ByteArray)(a2:Int)(x2:ByteArray)(r':List AV)(q2:Nd)(ts':List AV)(t0:(k==(5:Int))=false)(t1:(d==(24:Int))=false)(h0:0<=d)(h1:d<=24):zawo zaqa k a x r d q a' x' a2 x2 r' q2 ts':=by
 rw [zan3];delta zag1 zabc
 have e:d+(1:Int)-(1:Int)=d:=by omega
 rw [e]
 exact goP
theorem zan6 (k:Int)(a:Int)(x:ByteArray)(r:List AV)(d:Int)(q:Nd)(a':Int)(x':ByteArray)(a2:Int)(x2:ByteArray)(r':List AV)(q2:Nd)(ek:Int)(ea:Int)(ts':List AV)(t0:(k==(5:Int))=false)(t1:(d==(24:Int))=false)(h0:0<=d)(h1:d<=24):zawp zaqb k a x r d q a' x' a2 x2 r' q2 ek ea ts':=by
 rw [zan5];delta zag1 zadu zabc
 have e:d+(1:Int)-(1:Int)=d:=by omega
 rw [e]
 exact goP
theorem zan8 (k:Int)(a:Int)(x:ByteArray)(r:List AV)(d:Int)(q:Nd)(a':Int)(x':ByteArray)(a2:Int)(x2:ByteArray)(r':List AV)(q2:Nd)(ts':List AV)(t0:(k==(5:Int))=false)(t1:(d==(24:Int))=false)(h0:0<=d)(h1:d<=24):zawq zaqc k a x r d q a' x' a2 x2 r' q2 ts':=by
 rw [zan7];delta zag1 zabc
 have e:d+(1:Int)-(1:Int)=d:=by omega
 rw [e]
 exact goP
theorem zao (k:Int)(a:Int)(x:ByteArray)(r:List AV)(d:Int)(q:Nd)(a':Int)(x':ByteArray)(a2:Int)(x2:ByteArray)(r':List AV)(q2:Nd)(ek:Int)(ea:Int)(ts':List AV)(t0:(k==(5:Int))=false)(t1:(d==(24:Int))=false)(h0:0<=d)(h1:d<=24):zawr zaqd k a x r d q a' x' a2 x2 r' q2 ek ea ts':=by
 rw [zan9];delta zag1 zadu zabc
 have e:d+(1:Int)-(1:Int)=d:=by omega
 rw [e]
 exact goP
theorem zan0 (k:Int)(a:Int)(x:ByteArray)(r:List AV)(d:Int)(q:Nd)(a':Int)(x':ByteArray)(r':List AV)(q2:Nd)(ts':List AV)(t0:(k==(5:Int))=false)(h0:0<=d)(h1:d<=24):zavT zap9 k a x r d q a' x' r' q2 ts':=by
 rw [zanZ]
 exact goP
theorem zan2 (k:Int)(a:Int)(x:ByteArray)(r:List AV)(d:Int)(q:Nd)(a':Int)(x':ByteArray)(r':List AV)(q2:Nd)(ek:Int)(ea:Int)(ts':List AV)(t0:(k==(5:Int))=false)(h0:0<=d)(h1:d<=24):zavU zaq k a x r d q a' x' r' q2 ek ea ts':=by
 rw [zan1];delta zag1 zadu zabc
 exact goP
theorem zarG (a:Int)(x:ByteArray)(r:List AV):zaDK zawI a x r:=by
 rw [zarF]
 exact goP
theorem zarC (a:Int)(x:ByteArray)(r:List AV)(d:Int)(q:Nd)(ts':List AV)(t0:(d==(24:Int))=false)(h0:0<=d)(h1:d<=24):zaDI (Orc.f (Orc.t (Orc.f Orc.z))) a x r d q ts':=by
 rw [zarB];delta zabc
 have e:d+(1:Int)-(1:Int)=d:=by omega
 rw [e]
 exact goP
theorem zarE (a:Int)(x:ByteArray)(r:List AV)(d:Int)(q:Nd)(ek:Int)(ea:Int)(ts':List AV)(t0:(d==(24:Int))=false)(h0:0<=d)(h1:d<=24):zaDJ (Orc.f (Orc.t (Orc.f Orc.z))) a x r d q ek ea ts':=by
 rw [zarD];delta zadu zabc
 have e:d+(1:Int)-(1:Int)=d:=by omega
 rw [e]
 exact goP
theorem zary (k:Int)(a:Int)(x:ByteArray)(r:List AV)(d:Int)(q:Nd)(ts':List AV)(t0:(k != (10:Int))=true)(h0:0<=d)(h1:d<=24):zaDG (Orc.t Orc.z) k a x r d q ts':=by
 rw [zarx]
 exact goP
theorem zarA (k:Int)(a:Int)(x:ByteArray)(r:List AV)(d:Int)(q:Nd)(ek:Int)(ea:Int)(ts':List AV)(t0:(k != (10:Int))=true)(h0:0<=d)(h1:d<=24):zaDH (Orc.t Orc.z) k a x r d q ek ea ts':=by
 rw [zarz];delta zag1 zadu zabc
 exact goP
theorem zaDj (k:Int)(a:Int)(x:ByteArray)(r:List AV)(d:Int)(n:Nd)(t0:(zafw k [Value.int IntKind.i64 (7:Int),Value.int IntKind.i64 (8:Int)] [AV.lit (Value.int IntKind.i64 (2:Int)),AV.lit (Value.int IntKind.i64 (3:Int))] != (0:Int))=false)(h0:0<=d)(h1:d<=24):cXe ocXe k a x r d n:=by
 rw [zaDi]
 exact goP
theorem zaDh (k:Int)(a:Int)(x:ByteArray)(r:List AV)(d:Int)(n:Nd)(t0:(zafw k [Value.int IntKind.i64 (9:Int)] [AV.lit (Value.int IntKind.i64 (4:Int))] != (0:Int))=false)(h0:0<=d)(h1:d<=24):cXt ocXt k a x r d n:=by
 rw [zaDg]
 exact goP
theorem zaDn (ts:List AV)(d:Int)(n:Nd)(ek:Int)(ea:Int)(h0:0<=d)(h1:d<=24):cEe ocEe ts d n ek ea:=by
 rw [zaDm]
 exact goP
theorem zaDl (ts:List AV)(d:Int)(n:Nd)(ek:Int)(ea:Int)(h0:0<=d)(h1:d<=24):cEt ocEt ts d n ek ea:=by
 rw [zaDk]
 exact goP
theorem zaAW (a:Int)(x:ByteArray)(r:List AV)(d:Int)(n:Nd)(q:Nd)(us:List AV)(zs:List AV)(m:Nd)(h0:0<=d)(h1:d<=24):cR7N zaFq a x r d n q us zs m:=by
 rw [zaAV]
 exact goP
theorem zaAY (a:Int)(x:ByteArray)(r:List AV)(d:Int)(n:Nd)(q:Nd)(us:List AV)(zs:List AV)(m:Nd)(fk:Int)(fa:Int)(h0:0<=d)(h1:d<=24):cR7F zaFr a x r d n q us zs m fk fa:=by
 rw [zaAX]
 exact goP
theorem zaA0 (a:Int)(x:ByteArray)(r:List AV)(d:Int)(n:Nd)(q:Nd)(us:List AV)(zs:List AV)(m:Nd)(ek:Int)(ea:Int)(fk:Int)(fa:Int)(h0:0<=d)(h1:d<=24):cR7E zaFs a x r d n q us zs m ek ea fk fa:=by
 rw [zaAZ]
 exact goP
theorem zaAQ (a:Int)(x:ByteArray)(r:List AV)(d:Int)(n:Nd)(q:Nd)(us:List AV)(zs:List AV)(m:Nd)(h0:0<=d)(h1:d<=24):cR8N zaFn a x r d n q us zs m:=by
 rw [zaAP]
 exact goP
theorem zaAS (a:Int)(x:ByteArray)(r:List AV)(d:Int)(n:Nd)(q:Nd)(us:List AV)(zs:List AV)(m:Nd)(fk:Int)(fa:Int)(h0:0<=d)(h1:d<=24):cR8F zaFo a x r d n q us zs m fk fa:=by
 rw [zaAR]
 exact goP
theorem zaAU (a:Int)(x:ByteArray)(r:List AV)(d:Int)(n:Nd)(q:Nd)(us:List AV)(zs:List AV)(m:Nd)(ek:Int)(ea:Int)(fk:Int)(fa:Int)(h0:0<=d)(h1:d<=24):cR8E zaFp a x r d n q us zs m ek ea fk fa:=by
 rw [zaAT]
 exact goP
theorem zaAK (a:Int)(x:ByteArray)(r:List AV)(d:Int)(n:Nd)(q:Nd)(us:List AV)(zs:List AV)(m:Nd)(h0:0<=d)(h1:d<=24):cR9N zaFk a x r d n q us zs m:=by
 rw [zaAJ]
 exact goP
theorem zaAM (a:Int)(x:ByteArray)(r:List AV)(d:Int)(n:Nd)(q:Nd)(us:List AV)(zs:List AV)(m:Nd)(fk:Int)(fa:Int)(h0:0<=d)(h1:d<=24):cR9F zaFl a x r d n q us zs m fk fa:=by
 rw [zaAL]
 exact goP
theorem zaAO (a:Int)(x:ByteArray)(r:List AV)(d:Int)(n:Nd)(q:Nd)(us:List AV)(zs:List AV)(m:Nd)(ek:Int)(ea:Int)(fk:Int)(fa:Int)(h0:0<=d)(h1:d<=24):cR9E zaFm a x r d n q us zs m ek ea fk fa:=by
 rw [zaAN]
 exact goP
theorem zazP (ts:List AV)(us:List AV)(d:Int)(q:Nd)(zs:List AV)(m:Nd)(h0:0<=d)(h1:d<=24):gExN (Orc.z) ts us d q zs m:=by
 rw [zazO]
 exact goP
theorem zazR (ts:List AV)(us:List AV)(d:Int)(q:Nd)(zs:List AV)(m:Nd)(fk:Int)(fa:Int)(h0:0<=d)(h1:d<=24):gExF (Orc.z) ts us d q zs m fk fa:=by
 rw [zazQ]
 exact goP
theorem zazT (ts:List AV)(us:List AV)(d:Int)(q:Nd)(zs:List AV)(m:Nd)(ek:Int)(ea:Int)(fk:Int)(fa:Int)(h0:0<=d)(h1:d<=24):gExE (Orc.z) ts us d q zs m ek ea fk fa:=by
 rw [zazS]
 exact goP
theorem zayE (ts:List AV)(us:List AV)(d:Int)(q:Nd)(zs:List AV)(m:Nd)(h0:0<=d)(h1:d<=24):gTeN (Orc.z) ts us d q zs m:=by
 rw [zayD]
 exact goP
theorem zayG (ts:List AV)(us:List AV)(d:Int)(q:Nd)(zs:List AV)(m:Nd)(fk:Int)(fa:Int)(h0:0<=d)(h1:d<=24):gTeF (Orc.z) ts us d q zs m fk fa:=by
 rw [zayF]
 exact goP
theorem zayI (ts:List AV)(us:List AV)(d:Int)(q:Nd)(zs:List AV)(m:Nd)(ek:Int)(ea:Int)(fk:Int)(fa:Int)(h0:0<=d)(h1:d<=24):gTeE (Orc.z) ts us d q zs m ek ea fk fa:=by
 rw [zayH]
 exact goP
end
end Go.Proofs.YtpofhijgccocpaaGreatDoor
end
section
namespace Go.Proofs.YtpofhijgccocpaaGreatDoor
open Go.AS Go.TP
noncomputable section
def zaGg (os:Orc)(w:ByteArray)(v:Int):Prop:=gF XB [zamF] zamF os [s0 w] (i0 v)
end
end Go.Proofs.YtpofhijgccocpaaGreatDoor
end
section
namespace Go.Proofs.YtpofhijgccocpaaGreatDoor
open Go Go.AS Go.TP
def zaxd:Orc:=Orc.s (Orc.t Orc.z) (Orc.s (Orc.t Orc.z) (Orc.s Orc.z (Orc.s (Orc.t Orc.z) (Orc.s (Orc.t Orc.z) (Orc.s (Orc.t Orc.z) (Orc.s (Orc.t Orc.z) (Orc.s (Orc.t Orc.z) (Orc.s Orc.z (Orc.s (Orc.t Orc.z) (Orc.s (Orc.t Orc.z) (Orc.s Orc.z Orc.z)))))))))))
theorem zatZ (w:ByteArray)(v:Int):zaGg zaxd w v=(let z1:=(ByteArray.toList w==ByteArray.toList zabQ);let z2:=(ByteArray.toList w==ByteArray.toList zacm);let z3:=(ByteArray.toList w==ByteArray.toList zadp);let z4:=(ByteArray.toList w==ByteArray.toList zafl);let z5:=(ByteArray.toList w==ByteArray.toList zafk);let z6:=(ByteArray.toList w==ByteArray.toList zaen);let z7:=(ByteArray.toList w==ByteArray.toList zaem);let z8:=(ByteArray.toList w==ByteArray.toList zai6);let z9:=(ByteArray.toList w==ByteArray.toList zak0);let z10:=(ByteArray.toList w==ByteArray.toList zakB);let z11:=(ByteArray.toList w==ByteArray.toList wAll);let z12:=(ByteArray.toList w==ByteArray.toList wAnc);(z11=true->Yt (Wk (i0 1) (i0 v)/\S0))/\(z11=false->(z8=true->Yt (Wk (i0 1) (i0 v)/\S0))/\(z8=false->(z3=true->Wk (i0 1) (i0 v)/\S0)/\(z3=false->(z2=true->Yt (Wk (i0 2) (i0 v)/\S0))/\(z2=false->(z1=true->Yt (Wk (i0 2) (i0 v)/\S0))/\(z1=false->(z12=true->Yt (Wk (i0 2) (i0 v)/\S0))/\(z12=false->(z9=true->Yt (Wk (i0 2) (i0 v)/\S0))/\(z9=false->(z4=true->Yt (Wk (i0 2) (i0 v)/\S0))/\(z4=false->(z5=true->Wk (i0 2) (i0 v)/\S0)/\(z5=false->(z6=true->Yt (Wk (i0 3) (i0 v)/\S0))/\(z6=false->(z10=true->Yt (Wk (i0 3) (i0 v)/\S0))/\(z10=false->(z7=true->Wk (i0 3) (i0 v)/\S0)/\(z7=false->Wk (i0 0) (i0 v)/\S0))))))))))))):=by kernel_rfl
end Go.Proofs.YtpofhijgccocpaaGreatDoor
end
section
namespace Go.Proofs.YtpofhijgccocpaaGreatDoor
open Go.AS Go.TP
noncomputable section
theorem zauc (w:ByteArray):zaaB w=if w=wAll∨w=zai6∨w=zadp then 1 else if w=zacm∨w=zabQ∨w=wAnc∨w=zak0∨w=zafl∨w=zafk then 2 else if w=zaen∨w=zakB∨w=zaem then 3 else 0:=rfl
theorem zat0 (w:ByteArray):zaGg zaxd w (zaaB w):=by
 rw [zatZ,zauc,zaba w wAll,zaba w zai6,zaba w zadp,zaba w zacm,zaba w zabQ,zaba w wAnc,zaba w zak0,zaba w zafl,zaba w zafk,zaba w zaen,zaba w zakB,zaba w zaem]
 refine ⟨fun p => ?_,fun n0 => ?_⟩
 · have p:=of_decide_eq_true p;rw [if_pos (.inl p)];exact ⟨rfl,.refl _,.rfl⟩
 replace n0:=of_decide_eq_false n0
 refine ⟨fun p => ?_,fun n1 => ?_⟩
 · have p:=of_decide_eq_true p;rw [if_pos (.inr (.inl p))];exact ⟨rfl,.refl _,.rfl⟩
 replace n1:=of_decide_eq_false n1
 refine ⟨fun p => ?_,fun n2 => ?_⟩
 · have p:=of_decide_eq_true p;rw [if_pos (.inr (.inr p))];exact ⟨.refl _,.rfl⟩
 replace n2:=of_decide_eq_false n2
 refine ⟨fun p => ?_,fun n3 => ?_⟩
 · have p:=of_decide_eq_true p;rw [if_neg (fun q=>q.elim n0 (fun q=>q.elim n1 n2))];rw [if_pos (.inl p)];exact ⟨rfl,.refl _,.rfl⟩
 replace n3:=of_decide_eq_false n3
 refine ⟨fun p => ?_,fun n4 => ?_⟩
 · have p:=of_decide_eq_true p;rw [if_neg (fun q=>q.elim n0 (fun q=>q.elim n1 n2))];rw [if_pos (.inr (.inl p))];exact ⟨rfl,.refl _,.rfl⟩
 replace n4:=of_decide_eq_false n4
 refine ⟨fun p => ?_,fun n5 => ?_⟩
 · have p:=of_decide_eq_true p;rw [if_neg (fun q=>q.elim n0 (fun q=>q.elim n1 n2))];rw [if_pos (.inr (.inr (.inl p)))];exact ⟨rfl,.refl _,.rfl⟩
 replace n5:=of_decide_eq_false n5
 refine ⟨fun p => ?_,fun n6 => ?_⟩
 · have p:=of_decide_eq_true p;rw [if_neg (fun q=>q.elim n0 (fun q=>q.elim n1 n2))];rw [if_pos (.inr (.inr (.inr (.inl p))))];exact ⟨rfl,.refl _,.rfl⟩
 replace n6:=of_decide_eq_false n6
 refine ⟨fun p => ?_,fun n7 => ?_⟩
 · have p:=of_decide_eq_true p;rw [if_neg (fun q=>q.elim n0 (fun q=>q.elim n1 n2))];rw [if_pos (.inr (.inr (.inr (.inr (.inl p)))))];exact ⟨rfl,.refl _,.rfl⟩
 replace n7:=of_decide_eq_false n7
 refine ⟨fun p => ?_,fun n8 => ?_⟩
 · have p:=of_decide_eq_true p;rw [if_neg (fun q=>q.elim n0 (fun q=>q.elim n1 n2))];rw [if_pos (.inr (.inr (.inr (.inr (.inr p)))))];exact ⟨.refl _,.rfl⟩
 replace n8:=of_decide_eq_false n8
 refine ⟨fun p => ?_,fun n9 => ?_⟩
 · have p:=of_decide_eq_true p;rw [if_neg (fun q=>q.elim n0 (fun q=>q.elim n1 n2))];rw [if_neg (fun q=>q.elim n3 (fun q=>q.elim n4 (fun q=>q.elim n5 (fun q=>q.elim n6 (fun q=>q.elim n7 n8)))))];rw [if_pos (.inl p)];exact ⟨rfl,.refl _,.rfl⟩
 replace n9:=of_decide_eq_false n9
 refine ⟨fun p => ?_,fun n10 => ?_⟩
 · have p:=of_decide_eq_true p;rw [if_neg (fun q=>q.elim n0 (fun q=>q.elim n1 n2))];rw [if_neg (fun q=>q.elim n3 (fun q=>q.elim n4 (fun q=>q.elim n5 (fun q=>q.elim n6 (fun q=>q.elim n7 n8)))))];rw [if_pos (.inr (.inl p))];exact ⟨rfl,.refl _,.rfl⟩
 replace n10:=of_decide_eq_false n10
 refine ⟨fun p => ?_,fun n11 => ?_⟩
 · have p:=of_decide_eq_true p;rw [if_neg (fun q=>q.elim n0 (fun q=>q.elim n1 n2))];rw [if_neg (fun q=>q.elim n3 (fun q=>q.elim n4 (fun q=>q.elim n5 (fun q=>q.elim n6 (fun q=>q.elim n7 n8)))))];rw [if_pos (.inr (.inr p))];exact ⟨.refl _,.rfl⟩
 replace n11:=of_decide_eq_false n11
 rw [if_neg (fun q=>q.elim n0 (fun q=>q.elim n1 n2))];rw [if_neg (fun q=>q.elim n3 (fun q=>q.elim n4 (fun q=>q.elim n5 (fun q=>q.elim n6 (fun q=>q.elim n7 n8)))))];rw [if_neg (fun q=>q.elim n9 (fun q=>q.elim n10 n11))];exact ⟨.refl _,.rfl⟩
theorem zajG (w:ByteArray):F zamF [s0 w] (i0 (zaaB w)):=F_ok zaaR rfl (by kernel_rfl) (by kernel_rfl) (by kernel_rfl) (zat0 w)
end
end Go.Proofs.YtpofhijgccocpaaGreatDoor
end
section
namespace Go.TP
open Go.AS
def okT:List Tk->Prop
 | []=>False
 | t::r=>t.text.size<=600/\match r with
  | []=>t.kind=11
  | _::_=>t.kind≠11/\okT r
theorem zahr {ts:List Tk}(h:okT ts):ts≠[]:=by rintro rfl;exact h
theorem zabM {t:Tk}{r:List Tk}(h:okT (t::r))(hk:t.kind≠11):okT r:=by simp only [okT] at *;grind
theorem zaiq {t:Tk}{r:List Tk}(h:okT (t::r)):t.text.size<=600:=by unfold okT at h;exact h.1
theorem zaaW {t:Tk}{r:List Tk}(hk:t.kind≠11):zaal (t::r)=r:=if_neg hk
theorem zaaq {ts:List Tk}(h:okT ts):okT (zaal ts)/\(zaal ts).length<=ts.length:=by
 cases ts with
 | nil=>exact h.elim
 | cons t r =>
  show okT (if t.kind=11 then t::r else r)/\(if t.kind=11 then t::r else r).length<=(t::r).length
  by_cases hk:t.kind=11
  · rw [if_pos hk];exact ⟨h,Nat.le_refl _⟩
  · rw [if_neg hk];exact ⟨zabM h hk,by rw [List.length_cons];omega⟩
def Inv (ts:List Tk)(r:R):Prop:=okT r.ts/\r.ts.length<=ts.length
theorem Inv.refl {ts:List Tk}{n:Nd}{e:Option (Int × Int)}(h:okT ts):Inv ts ⟨n,e,ts⟩:=⟨h,Nat.le_refl _⟩
theorem Inv.of {ts us:List Tk}{r:R}(h:Inv us r)(hl:us.length<=ts.length):Inv ts r:=⟨h.1,Nat.le_trans h.2 hl⟩
theorem zagR {part:List Tk->R}(hp:∀ ts,okT ts->Inv ts (part ts))(km:Int->Int):∀ (n:Nat) (r:R),okT r.ts->Inv r.ts (zaaL part km n r)
 | 0,r,h=>by rw [zaaL];exact ⟨h,Nat.le_refl _⟩
 | n+1,r,h=>by
  rw [zaaL]
  split
  · have h1:=zaaq h
    have h2:=hp _ h1.1
    exact (zagR hp km n ⟨.mk (km (zaab r.ts).kind) (zaab r.ts).at_ 0 ByteArray.empty [r.n,(part (zaal r.ts)).n],(part (zaal r.ts)).e,(part (zaal r.ts)).ts⟩ h2.1).of (Nat.le_trans h2.2 h1.2)
  · exact ⟨h,Nat.le_refl _⟩
theorem zabf {k:Int}{ts:List Tk}(h:okT ts):okT (zaaz k ts).2/\(zaaz k ts).2.length<=ts.length:=by grind [zaaz,zaaq]
theorem zacF {d:Int}{t:Tk}{n0:Nd}{ts us:List Tk}{f:Int->List Tk->R}(h:okT us)(hl:us.length<=ts.length)(hf:Inv ts (f (d+1) us)):Inv ts (zaaT d t n0 us f):=by
 unfold zaaT
 split
 · exact ⟨h,hl⟩
 · exact hf
theorem zaaS:∀ (f:Nat) (lv:Lv) (d:Int) (ts:List Tk),okT ts->Inv ts (PF f lv d ts)
 | 0,_,_,ts,h=>by rw [PF];exact .refl h
 | f+1,.expr,d,ts,h=>by
  rw [PF]
  have h1:=zaaS f .term d ts h
  exact (zagR (fun us hu=>zaaS f .term d us hu) kmE f _ h1.1).of h1.2
 | f+1,.term,d,ts,h=>by
  rw [PF]
  have h1:=zaaS f .part d ts h
  exact (zagR (fun us hu=>zaaS f .part d us hu) kmT f _ h1.1).of h1.2
 | f+1,.part,d,ts,h=>by
  rw [PF]
  simp only
  split
  · exact zaaS f .ranged d ts h
  · have h1:=zaaq h
    exact zacF h1.1 h1.2 ((zaaS f .part (d+1) _ h1.1).of h1.2)
 | f+1,.ranged,d,ts,h=>by
  rw [PF]
  simp only
  have h1:=zaaq h
  split
  · exact zacF h1.1 h1.2 ((zaaS f .atom (d+1) _ h1.1).of h1.2)
  · have h2:=zaaS f .atom d ts h
    have second:∀ (d:Int) (us:List Tk) (k a:Int) (n:Nd) (m:Bool),okT us->us.length<=ts.length->Inv ts (zabL (PF f .atom d) k a n m us):=fun d us k a n m hu hl=>by
      unfold zabL
      split
      · exact ⟨hu,hl⟩
      · exact (zaaS f .atom d us hu).of hl
    have h3:=zaaq h2.1
    split
    · exact h2
    · split
      · exact zacF h3.1 (Nat.le_trans h3.2 h2.2) (second _ _ _ _ _ _ h3.1 (Nat.le_trans h3.2 h2.2))
      · split
        · exact second _ _ _ _ _ _ h3.1 (Nat.le_trans h3.2 h2.2)
        · exact h2
 | f+1,.atom,d,ts,h=>by
  rw [PF]
  simp only
  have h1:=zaaq h
  have h3:=zaaq h1.1
  split
  · refine zacF h1.1 h1.2 ?_
    have h2:=zaaS f .expr (d+1) _ h1.1
    split
    · exact h2.of h1.2
    · have h4:=zabf (k:=3) h2.1
      exact ⟨h4.1,Nat.le_trans h4.2 (Nat.le_trans h2.2 h1.2)⟩
  · split
    · split
      · unfold zapg
        simp only
        split
        · exact ⟨h1.1,h1.2⟩
        · refine zacF h3.1 (Nat.le_trans h3.2 h1.2) ?_
          have l3:=Nat.le_trans h3.2 h1.2
          split
          · have h4:=zabf (k:=3) h3.1
            exact ⟨h4.1,Nat.le_trans h4.2 l3⟩
          · have h2:=zaaS f .expr (d+1) _ h3.1
            have l2:=Nat.le_trans h2.2 l3
            split
            · exact ⟨h2.1,l2⟩
            · split
              · have h4:=zabf (k:=3) h2.1
                exact ⟨h4.1,Nat.le_trans h4.2 l2⟩
              · have h4:=zabf (k:=4) h2.1
                have l4:=Nat.le_trans h4.2 l2
                split
                · exact ⟨h4.1,l4⟩
                · split
                  · exact ⟨h4.1,l4⟩
                  · have h5:=zaaq h4.1
                    have h6:=zabf (k:=3) h5.1
                    exact ⟨h6.1,Nat.le_trans h6.2 (Nat.le_trans h5.2 l4)⟩
      · split
        · exact ⟨h1.1,h1.2⟩
        · exact ⟨h1.1,h1.2⟩
    · exact ⟨h,Nat.le_refl _⟩
end Go.TP
namespace Go.TP
theorem zaBl (f:Nat)(d k a:Int)(x:ByteArray)(r:List Tk):PF (f+1) .atom d (⟨k,a,x⟩::r) =
  if k=2 then zaaT d ⟨k,a,x⟩ .zero (zaal (⟨k,a,x⟩::r)) fun d ts =>
   let q:=PF f .expr d ts
   if q.e≠none then q else let x:=zaaz 3 q.ts;⟨q.n,x.1,x.2⟩
  else if k=1 then
   if (zaab (zaal (⟨k,a,x⟩::r))).kind=2 then zapg (fun d ts=>PF f .expr d ts) d ⟨k,a,x⟩ (zaal (⟨k,a,x⟩::r))
   else if zaav x then ⟨.mk 1 a 0 x [],none,zaal (⟨k,a,x⟩::r)⟩
   else ⟨.zero,some (15,a),zaal (⟨k,a,x⟩::r)⟩
  else ⟨.zero,some (15,a),⟨k,a,x⟩::r⟩:=by rw [PF];rfl
theorem zapD (f:Nat)(d k a:Int)(x:ByteArray)(r:List Tk):PF (f+1) .ranged d (⟨k,a,x⟩::r) =
  if k=5 then zaaT d ⟨k,a,x⟩ (.mk 6 a 0 ByteArray.empty []) (zaal (⟨k,a,x⟩::r)) fun d ts=>⟨.mk 6 a 0 ByteArray.empty [(PF f .atom d ts).n],(PF f .atom d ts).e,(PF f .atom d ts).ts⟩
  else
   let q:=PF f .atom d (⟨k,a,x⟩::r)
   if q.e≠none then q
   else
    let u:=zaab q.ts
    if u.kind=5 then zaaT d u (.mk 8 u.at_ 0 ByteArray.empty [q.n]) (zaal q.ts) fun d ts=>zabL (PF f .atom d) 8 u.at_ q.n false ts
    else if u.kind=6 then zabL (PF f .atom d) 9 u.at_ q.n true (zaal q.ts)
    else ⟨q.n,none,q.ts⟩:=by rw [PF];rfl
theorem zaBk (f:Nat)(d k a:Int)(x:ByteArray)(r:List Tk):PF (f+1) .part d (⟨k,a,x⟩::r) =
  if k≠10 then PF f .ranged d (⟨k,a,x⟩::r)
  else zaaT d ⟨k,a,x⟩ (.mk 5 a 0 ByteArray.empty []) (zaal (⟨k,a,x⟩::r)) fun d ts=>⟨.mk 5 a 0 ByteArray.empty [(PF f .part d ts).n],(PF f .part d ts).e,(PF f .part d ts).ts⟩:=by rw [PF];rfl
theorem zaum (expr:Int->List Tk->R)(d:Int)(w u:Tk)(r:List Tk):zapg expr d w (u::r) =
  if zaaB w.text=0 then ⟨.zero,some (15,w.at_),u::r⟩
  else zaaT d u .zero (zaal (u::r)) fun d ts =>
   if zaaB w.text=1 then ⟨.mk 10 w.at_ 0 w.text [],(zaaz 3 ts).1,(zaaz 3 ts).2⟩
   else
    let q:=expr d ts
    if q.e≠none then ⟨.mk 10 w.at_ 0 w.text [q.n],q.e,q.ts⟩
    else if zaaB w.text=2 then ⟨.mk 10 w.at_ 0 w.text [q.n],(zaaz 3 q.ts).1,(zaaz 3 q.ts).2⟩
    else
     let x:=zaaz 4 q.ts
     if x.1≠none then ⟨.mk 10 w.at_ 0 w.text [q.n],x.1,x.2⟩
     else match zabr (zaab x.2) with
      | none=>⟨.mk 10 w.at_ 0 w.text [q.n],zakT x.2,x.2⟩
      | some k=>⟨.mk 10 w.at_ k w.text [q.n],(zaaz 3 (zaal x.2)).1,(zaaz 3 (zaal x.2)).2⟩:=rfl
end Go.TP
end
section
namespace Go.Proofs.YtpofhijgccocpaaGreatDoor
open Go.AS Go.TP
noncomputable section
def encE:Option (Int × Int)->AV
 | none=>nilE
 | some (k,a)=>zaau k a
def fnLv:Lv->Nat
 | .expr=>zacv
 | .term=>zafa
 | .part=>zad7
 | .ranged=>zaaP
 | .atom=>zaa8
def zaG6:Lv->Nat
 | .expr=>5
 | .term=>4
 | .part=>3
 | .ranged=>2
 | .atom=>1
abbrev PR (f:Nat)(d:Int)(ts:List Tk)(r:R):Prop:=FOk Tryz.prog gl0 f [pArg] (zacA (ts.map encT) d) (pOut (r.ts.map encT) d (encP r.n) (encE r.e))
def PFOk (f:Nat):Prop:=∀ lv d ts,0<=d->d<=24->okT ts->5*ts.length+zaG6 lv<=f->PR (fnLv lv) d ts (PF f lv d ts)
theorem zae (n:Nd):encL [n]=[encP n]:=by rw [zamN];rfl
theorem zagO (n m:Nd):encL [n,m]=[encP n,encP m]:=by rw [zamN,zamN];rfl
theorem zakG (k a m:Int)(t:ByteArray)(n:Nd):encP (.mk k a m t [n])=zadZ k a m t [encP n]:=by
 show zadZ k a m t (encL [n])=_
 rw [zae]
theorem zaBw (k a m:Int)(t:ByteArray)(n q:Nd):encP (.mk k a m t [n,q])=zadZ k a m t [encP n,encP q]:=by
 show zadZ k a m t (encL [n,q])=_
 rw [zagO]
variable {X:WX} {os:Orc} {ts ts':List AV} {d a k:Int} {n e:AV} {x:ByteArray}
attribute [local irreducible] runF in
theorem zaqN (hX:X.Sound) (hp:X.px=X0) {f:Nat} (hs:(Tryz.prog.funcs[f]?).isSome=true) (hb:(fn f).body=some (code f)) (hn:((fn f).name == "runtime.NumGoroutine")=false) {fz:Nat} {xs:List AV} {σ:Hp} {r:Back}
  (h:runF (X.ask askP) 14 f (fn f) (code f) os fz [] xs σ r):FOk Tryz.prog gl0 f xs σ r:=by
 have hP:X.px.P=Tryz.prog:=by rw [hp];rfl
 have hg:X.px.gl=gl0:=by rw [hp];rfl
 have:=zade (X:=X.ask askP) (d:=14) (hX.ask askP) (f:=f) (fn:=fn f) (code:=code f) (by show X.px.P.funcs[f]?=_;rw [hP];exact fnOk f hs) hb hn h
 show FOk Tryz.prog gl0 f xs σ r
 rw [<-hg,<-hP];exact this
attribute [local irreducible] runF in
theorem zacE (hX:X.Sound)(hp:X.px=X0)(h:gP X zaa8 os ts ts' d n e):FOk Tryz.prog gl0 zaa8 [pArg] (zacA ts d) (pOut ts' d n e) :=
 zaqN hX hp (by kernel_rfl) (show (fn zaa8).body=some (code zaa8) by kernel_rfl) (by kernel_rfl) h
attribute [local irreducible] runF in
theorem zada (hX:X.Sound)(hp:X.px=X0)(h:gP X zaaP os ts ts' d n e):FOk Tryz.prog gl0 zaaP [pArg] (zacA ts d) (pOut ts' d n e) :=
 zaqN hX hp (by kernel_rfl) (show (fn zaaP).body=some (code zaaP) by kernel_rfl) (by kernel_rfl) h
attribute [local irreducible] runF in
theorem zac0 (hX:X.Sound)(hp:X.px=X0)(h:gP1 X zaaP os ts ts' d n e):FOk Tryz.prog gl0 zaaP [pArg] (zacA ts d) (pOut ts' d n e) :=
 zaqN hX hp (by kernel_rfl) (show (fn zaaP).body=some (code zaaP) by kernel_rfl) (by kernel_rfl) h
attribute [local irreducible] runF in
theorem zalL (hX:X.Sound)(hp:X.px=X0)(h:gP X zad7 os ts ts' d n e):FOk Tryz.prog gl0 zad7 [pArg] (zacA ts d) (pOut ts' d n e) :=
 zaqN hX hp (by kernel_rfl) (show (fn zad7).body=some (code zad7) by kernel_rfl) (by kernel_rfl) h
attribute [local irreducible] runF in
theorem zauh (hX:X.Sound)(hp:X.px=X0)(h:gP X zacv os ts ts' d n e):FOk Tryz.prog gl0 zacv [pArg] (zacA ts d) (pOut ts' d n e) :=
 zaqN hX hp (by kernel_rfl) (show (fn zacv).body=some (code zacv) by kernel_rfl) (by kernel_rfl) h
attribute [local irreducible] runF in
theorem zarv (hX:X.Sound)(hp:X.px=X0)(h:gP X zafa os ts ts' d n e):FOk Tryz.prog gl0 zafa [pArg] (zacA ts d) (pOut ts' d n e) :=
 zaqN hX hp (by kernel_rfl) (show (fn zafa).body=some (code zafa) by kernel_rfl) (by kernel_rfl) h
theorem zaBO (h:FOk Tryz.prog gl0 zacv [pArg] (zacA ts d) (pOut ts' d n e)):(XE ts ts' d n e).Sound:=zaaR.add (zaek (s:=spP ts ts' d n e) fun _ _=>h)
theorem zauW (h:FOk Tryz.prog gl0 zaa8 [pArg] (zacA ts d) (pOut ts' d n e)):(XA ts ts' d n e).Sound:=zaaR.add (zaek (s:=spP ts ts' d n e) fun _ _=>h)
theorem zakx {us us':List AV}{d2:Int}{n2 e2:AV}(h:FOk Tryz.prog gl0 zaa8 [pArg] (zacA ts d) (pOut ts' d n e))(h2:FOk Tryz.prog gl0 zaa8 [pArg] (zacA us d2) (pOut us' d2 n2 e2)):(XAA ts ts' d n e us us' d2 n2 e2).Sound :=
 zaaR.add (Sp.ok (P:=Tryz.prog) (gl:=gl0) (f:=zaa8) fun s hs _ _=>by
  rcases List.mem_cons.1 hs with rfl|hs
  · exact h
  · rcases List.mem_cons.1 hs with rfl|hs
    · exact h2
    · cases hs)
theorem zaBi (h:FOk Tryz.prog gl0 zacv [pArg] (zacA ts d) (pOut ts' d n e)){v:Int}(hv:zaaB x=v):(XF x v ts ts' d n e).Sound:=(zaBO h).add (zaek (s:=zahc x v) fun _ _=>hv ▸ zajG x)
theorem zauG {t:AV}{m:Int}{b:Bool}(h:FOk Tryz.prog gl0 zacv [pArg] (zacA ts d) (pOut ts' d n e))(hv:zaaB x=3)(ht:F zaaw [t] (.tup [i0 m,b0 b])):(XFN x ts ts' d n e t m b).Sound :=
 (zaBi h hv).add (zaek (s:=zaDP t m b) fun _ _=>ht)
theorem zagY {v:Int}(hv:zaaB x=v):(XB.add zamF (Sp.con [zahc x v])).Sound:=zaaR.add (zaek (s:=zahc x v) fun _ _=>hv ▸ zajG x)
theorem zaq8 {b:Bool}(hx:x.size<=600)(hv:zaav x=b):(XB.add zaaf (Sp.con [zaBu x b])).Sound:=zaaR.add (zaek (s:=zaBu x b) fun _ _=>hv ▸ zafY x (by omega))
theorem zakl (x:ByteArray):zaaB x=0∨zaaB x=1∨zaaB x=2∨zaaB x=3:=by grind [zaaB]
theorem beqF {b:Int}(h:a≠b):(a==b)=false:=beq_eq_false_iff_ne.2 h
theorem bneT {b:Int}(h:a≠b):(a != b)=true:=bne_iff_ne.2 h
theorem zasz {t:Tk}(h:zabr t=some k):t.kind=1:=by grind [zabr]
theorem zacS {r:List Tk}(h:k≠11):zaaz k (⟨k,a,x⟩::r)=(none,r):=by
 show (if k=k then (none,zaal (⟨k,a,x⟩::r)) else _)=_
 rw [if_pos rfl,zaaW h]
theorem zadF {kc ac:Int}{xc:ByteArray}{r:List Tk}(h:kc≠k):zaaz k (⟨kc,ac,xc⟩::r)=(some (15,ac),⟨kc,ac,xc⟩::r):=by
 show (if kc=k then _ else (zakT (⟨kc,ac,xc⟩::r),⟨kc,ac,xc⟩::r))=_
 rw [if_neg h];rfl
attribute [local irreducible] runF in
theorem zapi {f:Nat}(ih:PFOk f){ts:List Tk}(h0:0<=d)(h1:d<=24)(hk:okT ts)(hf:5*ts.length+1<=f+1):PR zaa8 d ts (PF (f+1) .atom d ts):=by
 match ts,hk,hf with
 | [],hk,_=>exact hk.elim
 | ⟨k,a,x⟩::r,hk,hf =>
  rw [List.length_cons] at hf
  rw [zaBl]
  by_cases h2:k=2
  · subst h2
    have hr:=zabM hk (show (2:Int)≠11 by decide)
    rw [if_pos rfl,zaaW (show (2:Int)≠11 by decide)]
    unfold zaaT
    by_cases hd:d=24
    · subst hd;rw [if_pos rfl]
      exact zacE zaaR rfl (zauz a x (r.map encT))
    · rw [if_neg hd]
      dsimp only
      have hq:=ih .expr (d+1) r (by omega) (by omega) hr (by show 5*r.length+5<=f;omega)
      have hi:=zaaS f .expr (d+1) r hr
      generalize PF f .expr (d+1) r=q at hq hi ⊢
      obtain ⟨n,e,us⟩:=q
      have hq:PR zacv (d+1) r ⟨n,e,us⟩:=hq
      cases e with
      | some e =>
        obtain ⟨ek,ea⟩:=e
        simp only [ne_eq,reduceCtorEq,not_false_eq_true,if_true]
        exact zacE (zaBO hq) rfl (zapm a x _ d n ek ea _ (beqF hd) h0 h1)
      | none =>
        simp only [ne_eq,not_true_eq_false,if_false]
        match us,hi.1,hq with
        | ⟨kc,ac,xc⟩::r',hc,hq =>
          by_cases h3:kc=3
          · subst h3
            rw [zacS (show (3:Int)≠11 by decide)]
            exact zacE (zaBO hq) rfl (zauv a x _ d n ac xc _ (beqF hd) h0 h1)
          · rw [zadF h3]
            exact zacE (zaBO hq) rfl (zapk a x _ d n kc ac xc _ (beqF hd) (bneT h3) h0 h1)
  · rw [if_neg h2]
    by_cases h3:k=1
    · subst h3
      have hr:=zabM hk (show (1:Int)≠11 by decide)
      have hx:=zaiq hk
      have hx:x.size<=600:=hx
      rw [if_pos rfl,zaaW (show (1:Int)≠11 by decide)]
      match r,hr,hf with
      | ⟨k',a',x'⟩::r,hr,hf =>
        rw [List.length_cons] at hf
        by_cases h4:k'=2
        · subst h4
          have hr2:=zabM hr (show (2:Int)≠11 by decide)
          rw [if_pos (c:=(zaab (⟨2,a',x'⟩::r)).kind=2) rfl,zaum]
          by_cases hv0:zaaB x=0
          · rw [if_pos hv0]
            exact zacE (zagY hv0) rfl (zapA a x a' x' _ d h0 h1)
          rw [if_neg hv0,zaaW (show (2:Int)≠11 by decide)]
          unfold zaaT
          by_cases hd:d=24
          · subst hd;rw [if_pos rfl]
            exact zacE (zagY rfl) rfl (zaps a x (zaaB x) a' x' _ (beqF hv0))
          rw [if_neg hd]
          dsimp only
          by_cases hv1:zaaB x=1
          · rw [if_pos hv1]
            match r,hr2 with
            | ⟨kc,ac,xc⟩::r',hc =>
              by_cases h5:kc=3
              · subst h5
                rw [zacS (show (3:Int)≠11 by decide)]
                exact zacE (zagY hv1) rfl (zapy a x a' x' ac xc _ d (beqF hd) h0 h1)
              · rw [zadF h5]
                exact zacE (zagY hv1) rfl (zank a x a' x' kc ac xc _ d (beqF hd) (bneT h5) h0 h1)
          rw [if_neg hv1]
          have hq:=ih .expr (d+1) r (by omega) (by omega) hr2 (by show 5*r.length+5<=f;omega)
          have hi:=zaaS f .expr (d+1) r hr2
          generalize PF f .expr (d+1) r=q at hq hi ⊢
          obtain ⟨n,e,us⟩:=q
          have hq:PR zacv (d+1) r ⟨n,e,us⟩:=hq
          cases e with
          | some e =>
            obtain ⟨ek,ea⟩:=e
            simp only [ne_eq,reduceCtorEq,not_false_eq_true,if_true]
            unfold PR
            rw [zakG]
            exact zacE (zaBi hq rfl) rfl (zapq a x (zaaB x) a' x' _ d n ek ea _ (beqF hv0) (beqF hd) (beqF hv1) h0 h1)
          | none =>
            simp only [ne_eq,not_true_eq_false,if_false]
            match us,hi.1,hq with
            | ⟨kc,ac,xc⟩::r',hc,hq =>
              by_cases hv2:zaaB x=2
              · rw [if_pos hv2]
                by_cases h5:kc=3
                · subst h5
                  rw [zacS (show (3:Int)≠11 by decide)]
                  unfold PR
                  rw [zakG]
                  exact zacE (zaBi hq hv2) rfl (zapw a x a' x' _ d n ac xc _ (beqF hd) h0 h1)
                · rw [zadF h5]
                  unfold PR
                  rw [zakG]
                  exact zacE (zaBi hq hv2) rfl (zani a x a' x' _ d n kc ac xc _ (beqF hd) (bneT h5) h0 h1)
              rw [if_neg hv2]
              have hv3:zaaB x=3:=by rcases zakl x with h|h|h|h<;>first|exact absurd h hv0|exact absurd h hv1|exact absurd h hv2|exact h
              by_cases h5:kc=4
              · subst h5
                have hr3:=zabM hc (show (4:Int)≠11 by decide)
                have ex:zaaz 4 (⟨4,ac,xc⟩::r')=(none,r'):=zacS (by decide)
                rw [ex]
                simp only [ne_eq,not_true_eq_false,if_false]
                match r',hr3 with
                | t::r'',hn =>
                  cases hm:zabr t with
                  | none =>
                    rw [show zabr (zaab (t::r''))=none from hm]
                    dsimp only
                    obtain ⟨m,hm⟩:=zake t (Nat.le_trans (zaiq hn) (by omega)) hm
                    obtain ⟨kn,an,xn⟩:=t
                    unfold PR
                    rw [zakG]
                    exact zacE (zauG hq hv3 hm) rfl (zane a x a' x' _ d n ac xc kn an xn m _ (beqF hd) h0 h1)
                  | some m =>
                    rw [show zabr (zaab (t::r''))=some m from hm]
                    dsimp only
                    have hk1:=zasz hm
                    have hm:=zakd t m hm
                    obtain ⟨kn,an,xn⟩:=t
                    have hk1:kn=1:=hk1
                    subst hk1
                    have hr4:=zabM hn (show (1:Int)≠11 by decide)
                    rw [zaaW (show (1:Int)≠11 by decide)]
                    match r'',hr4 with
                    | ⟨kz,az,xz⟩::r5,_ =>
                      by_cases h6:kz=3
                      · subst h6
                        rw [zacS (show (3:Int)≠11 by decide)]
                        unfold PR
                        rw [zakG]
                        exact zacE (zauG hq hv3 hm) rfl (zapu a x a' x' _ d n ac xc an xn m az xz _ (beqF hd) h0 h1)
                      · rw [zadF h6]
                        unfold PR
                        rw [zakG]
                        exact zacE (zauG hq hv3 hm) rfl (zanc a x a' x' _ d n ac xc an xn m kz az xz _ (beqF hd) (bneT h6) h0 h1)
              · have ex:zaaz 4 (⟨kc,ac,xc⟩::r')=(some (15,ac),⟨kc,ac,xc⟩::r'):=zadF h5
                rw [ex]
                simp only [ne_eq,reduceCtorEq,not_false_eq_true,if_true]
                unfold PR
                rw [zakG]
                exact zacE (zaBi hq hv3) rfl (zang a x a' x' _ d n kc ac xc _ (beqF hd) (bneT h5) h0 h1)
        · rw [if_neg (c:=(zaab (⟨k',a',x'⟩::r)).kind=2) h4]
          by_cases hp:zaav x=true
          · rw [if_pos hp]
            exact zacE (zaq8 hx hp) rfl (zaux a x k' a' x' _ d (beqF h4) h0 h1)
          · rw [if_neg hp]
            exact zacE (zaq8 hx (by simpa using hp)) rfl (zapo a x k' a' x' _ d (beqF h4) h0 h1)
    · rw [if_neg h3]
      exact zacE zaaR rfl (zaBf k a x _ d (beqF h2) (beqF h3) h0 h1)
variable {d:Int}
attribute [local irreducible] runF in
theorem upOk {X:WX}(hX:X.Sound)(hp:X.px=X0){os:Orc}{a:Int}{x:ByteArray}{ts ts':List AV}{n e:AV}(h:gUp X os a x ts ts' d n e):FOk Tryz.prog gl0 fPUp [pArg,tokV 5 a x] (zacA ts d) (pOut ts' d n e) :=
 zaqN hX hp (by kernel_rfl) (show (fn fPUp).body=some (code fPUp) by kernel_rfl) (by kernel_rfl) h
attribute [local irreducible] runF in
theorem zaB4 (a:Int)(x:ByteArray)(r:List AV)(d:Int)(h0:0<=d)(h1:d<=24):FOk Tryz.prog gl0 zafD [pArg] (zacA (tokV 5 a x::r) d) ⟨tokV 5 a x,zacA r d,[1048577]⟩ :=
 zaqN zaaR rfl (by kernel_rfl) (show (fn zafD).body=some (code zafD) by kernel_rfl) (by kernel_rfl) (zasN a x r d h0 h1)
theorem zaDp {a:Int}{x:ByteArray}{r ts':List AV}{n e:AV}(h0:0<=d)(h1:d<=24)(h:FOk Tryz.prog gl0 fPUp [pArg,tokV 5 a x] (zacA r d) (pOut ts' d n e)):(XU a x r ts' d n e).Sound :=
 (zaaR.add (zaek (s:=zavs a x r d) fun _ _=>zaB4 a x r d h0 h1)).add (zaek (s:=spUp a x r ts' d n e) fun _ _=>h)
attribute [local irreducible] runF in
theorem zaj8 {f:Nat}(ih:PFOk f){ts:List Tk}(h0:0<=d)(h1:d<=24)(hk:okT ts)(hf:5*ts.length+2<=f+1):PR zaaP d ts (PF (f+1) .ranged d ts):=by
 match ts,hk,hf with
 | [],hk,_=>exact hk.elim
 | ⟨k,a,x⟩::r,hk,hf =>
  rw [zapD]
  by_cases h2:k=5
  · subst h2
    have hr:=zabM hk (show (5:Int)≠11 by decide)
    rw [List.length_cons] at hf
    rw [if_pos rfl,zaaW (show (5:Int)≠11 by decide)]
    unfold zaaT
    by_cases hd:d=24
    · subst hd;rw [if_pos rfl]
      exact zada (zaDp h0 h1 (upOk zaaR rfl (zaGL a x (r.map encT)))) rfl (zapV a x (r.map encT) 24 (.mk 6 a 0 ByteArray.empty []) 16 a (r.map encT) h0 h1)
    · rw [if_neg hd]
      dsimp only
      have hq:=ih .atom (d+1) r (by omega) (by omega) hr (by show 5*r.length+1<=f;omega)
      generalize PF f .atom (d+1) r=q at hq ⊢
      obtain ⟨n,e,us⟩:=q
      have hq:PR zaa8 (d+1) r ⟨n,e,us⟩:=hq
      cases e with
      | some e =>
        obtain ⟨ek,ea⟩:=e
        have hu:=upOk (zauW hq) rfl (zaGJ a x _ d n ek ea _ (beqF hd) h0 h1)
        rw [<-zakG] at hu
        exact zada (zaDp h0 h1 hu) rfl (zapV a x _ d _ ek ea _ h0 h1)
      | none =>
        have hu:=upOk (zauW hq) rfl (zaGH a x _ d n _ (beqF hd) h0 h1)
        rw [<-zakG] at hu
        exact zada (zaDp h0 h1 hu) rfl (zavN a x _ d _ _ h0 h1)
  · rw [if_neg h2]
    dsimp only
    have hq:=ih .atom d (⟨k,a,x⟩::r) h0 h1 hk (by show 5*(List.length _)+1<=f;omega)
    have hi:=zaaS f .atom d (⟨k,a,x⟩::r) hk
    generalize PF f .atom d (⟨k,a,x⟩::r)=q at hq hi ⊢
    obtain ⟨n,e,us⟩:=q
    have hq:PR zaa8 d (⟨k,a,x⟩::r) ⟨n,e,us⟩:=hq
    cases e with
    | some e =>
      obtain ⟨ek,ea⟩:=e
      simp only [ne_eq,reduceCtorEq,not_false_eq_true,if_true]
      exact zada (zauW hq) rfl (zawt k a x _ d n ek ea _ (beqF h2) h0 h1)
    | none =>
      simp only [ne_eq,not_true_eq_false,if_false]
      obtain ⟨hi1,hi2⟩:=hi
      match us,hi1,hi2,hq with
      | ⟨ku,au,xu⟩::r',hc,hl,hq =>
        have hl:r'.length+1<=(⟨k,a,x⟩::r:List Tk).length:=hl
        by_cases h5:ku=5
        · subst h5
          have hr:=zabM hc (show (5:Int)≠11 by decide)
          rw [if_pos (c:=(zaab (⟨5,au,xu⟩::r')).kind=5) rfl,zaaW (show (5:Int)≠11 by decide)]
          unfold zaaT
          by_cases hd:d=24
          · subst hd;rw [if_pos rfl]
            unfold PR
            rw [zakG]
            exact zada (zauW hq) rfl (zasm k a x _ n au xu _ (beqF h2))
          · rw [if_neg hd]
            dsimp only
            match r',hr,hl with
            | ⟨k2,a2,x2⟩::r'',hr,hl =>
              unfold zabL
              by_cases h6:false=false/\(zaab (⟨k2,a2,x2⟩::r'')).kind≠2/\(zaab (⟨k2,a2,x2⟩::r'')).kind≠1
              · rw [if_pos h6]
                unfold PR
                rw [zakG]
                exact zada (zauW hq) rfl (zask k a x _ d n au xu k2 a2 x2 _ (beqF h2) (beqF hd) (beqF h6.2.1) (beqF h6.2.2) h0 h1)
              · rw [if_neg h6]
                have h7:k2=2∨k2=1:=by
                  by_cases e1:k2=2
                  · exact .inl e1
                  · by_cases e2:k2=1
                    · exact .inr e2
                    · exact absurd ⟨rfl,e1,e2⟩ h6
                dsimp only
                have hq2:=ih .atom (d+1) (⟨k2,a2,x2⟩::r'') (by omega) (by omega) hr (by show 5*(List.length _)+1<=f;omega)
                generalize PF f .atom (d+1) (⟨k2,a2,x2⟩::r'')=q2 at hq2 ⊢
                obtain ⟨n2,e2,us2⟩:=q2
                have hq2:PR zaa8 (d+1) (⟨k2,a2,x2⟩::r'') ⟨n2,e2,us2⟩:=hq2
                unfold PR
                rw [zaBw]
                cases e2 with
                | some e =>
                  obtain ⟨ek,ea⟩:=e
                  rcases h7 with rfl|rfl
                  · exact zac0 (zakx hq hq2) rfl (zan6 k a x _ d n au xu a2 x2 _ n2 ek ea _ (beqF h2) (beqF hd) h0 h1)
                  · exact zac0 (zakx hq hq2) rfl (zao k a x _ d n au xu a2 x2 _ n2 ek ea _ (beqF h2) (beqF hd) h0 h1)
                | none =>
                  rcases h7 with rfl|rfl
                  · exact zac0 (zakx hq hq2) rfl (zan4 k a x _ d n au xu a2 x2 _ n2 _ (beqF h2) (beqF hd) h0 h1)
                  · exact zac0 (zakx hq hq2) rfl (zan8 k a x _ d n au xu a2 x2 _ n2 _ (beqF h2) (beqF hd) h0 h1)
        rw [if_neg (c:=(zaab (⟨ku,au,xu⟩::r')).kind=5) h5]
        by_cases h6:ku=6
        · subst h6
          have hr:=zabM hc (show (6:Int)≠11 by decide)
          rw [if_pos (c:=(zaab (⟨6,au,xu⟩::r')).kind=6) rfl,zaaW (show (6:Int)≠11 by decide)]
          unfold zabL
          rw [if_neg (fun h:(true=false/\_)=>Bool.noConfusion h.1)]
          dsimp only
          have hq2:=ih .atom d r' h0 h1 hr (by show 5*r'.length+1<=f;omega)
          generalize PF f .atom d r'=q2 at hq2 ⊢
          obtain ⟨n2,e2,us2⟩:=q2
          have hq2:PR zaa8 d r' ⟨n2,e2,us2⟩:=hq2
          unfold PR
          rw [zaBw]
          cases e2 with
          | some e =>
            obtain ⟨ek,ea⟩:=e
            exact zac0 (zakx hq hq2) rfl (zan2 k a x _ d n au xu _ n2 ek ea _ (beqF h2) h0 h1)
          | none=>exact zac0 (zakx hq hq2) rfl (zan0 k a x _ d n au xu _ n2 _ (beqF h2) h0 h1)
        · rw [if_neg (c:=(zaab (⟨ku,au,xu⟩::r')).kind=6) h6]
          exact zada (zauW hq) rfl (zawv k a x _ d n ku au xu _ (beqF h2) (beqF h5) (beqF h6) h0 h1)
attribute [local irreducible] runF in
theorem zaoh {f:Nat}(ih:PFOk f){ts:List Tk}(h0:0<=d)(h1:d<=24)(hk:okT ts)(hf:5*ts.length+3<=f+1):PR zad7 d ts (PF (f+1) .part d ts):=by
 match ts,hk,hf with
 | [],hk,_=>exact hk.elim
 | ⟨k,a,x⟩::r,hk,hf =>
  rw [zaBk]
  by_cases h2:k=10
  · subst h2
    have hr:=zabM hk (show (10:Int)≠11 by decide)
    rw [List.length_cons] at hf
    rw [if_neg (fun h=>h rfl),zaaW (show (10:Int)≠11 by decide)]
    unfold zaaT
    by_cases hd:d=24
    · subst hd;rw [if_pos rfl]
      exact zalL zaaR rfl (zarG a x (r.map encT))
    · rw [if_neg hd]
      dsimp only
      have hq:=ih .part (d+1) r (by omega) (by omega) hr (by show 5*r.length+3<=f;omega)
      generalize PF f .part (d+1) r=q at hq ⊢
      obtain ⟨n,e,us⟩:=q
      have hq:FOk Tryz.prog gl0 zad7 [pArg] (zacA (r.map encT) (d+1)) (pOut (us.map encT) (d+1) (encP n) (encE e)):=hq
      unfold PR
      rw [zakG]
      cases e with
      | some e =>
        obtain ⟨ek,ea⟩:=e
        exact zalL (zaaR.add (zaek (s:=spP _ _ _ _ _) fun _ _=>hq)) rfl (zarE a x _ d n ek ea _ (beqF hd) h0 h1)
      | none=>exact zalL (zaaR.add (zaek (s:=spP _ _ _ _ _) fun _ _=>hq)) rfl (zarC a x _ d n _ (beqF hd) h0 h1)
  · rw [if_pos h2]
    have hq:=ih .ranged d (⟨k,a,x⟩::r) h0 h1 hk (by show 5*(List.length _)+2<=f;omega)
    generalize PF f .ranged d (⟨k,a,x⟩::r)=q at hq ⊢
    obtain ⟨n,e,us⟩:=q
    have hq:FOk Tryz.prog gl0 zaaP [pArg] (zacA (List.map encT (⟨k,a,x⟩::r)) d) (pOut (us.map encT) d (encP n) (encE e)):=hq
    cases e with
    | some e =>
      obtain ⟨ek,ea⟩:=e
      exact zalL (zaaR.add (zaek (s:=spP _ _ _ _ _) fun _ _=>hq)) rfl (zarA k a x _ d n ek ea _ (bneT h2) h0 h1)
    | none=>exact zalL (zaaR.add (zaek (s:=spP _ _ _ _ _) fun _ _=>hq)) rfl (zary k a x _ d n _ (bneT h2) h0 h1)
abbrev BCh (xs:List AV)(σ:Hp)(r:Ex × Back):Prop:=zab9 Tryz.prog gl0 (fn fPChain).ntmps (zaaX (code fPChain) 0) [0,1,2,6,8,9] (fun _=>[6,8,9]) xs σ fun _ q=>q=r
variable {ts us:List AV} {d:Int} {n e:AV} {f:Nat}
attribute [local irreducible] runL in
theorem zacl {X:WX}(hX:X.Sound)(hp:X.px=X0){os:Orc}{c:Ch}{P:Prop}{n' e':AV}{r' r:Ex × Back}(ih:P->BCh (zaiU c e') (zah2 c us d n') r')(h:rCh X os c P ts d n e us n' e' r' r):BCh (zaiU c e) (zah2 c ts d n) r:=by
 have hP:X.px.P=Tryz.prog:=by rw [hp];rfl
 have hg:X.px.gl=gl0:=by rw [hp];rfl
 have:=zamc (X:=X.ask (fPChain::askP)) (hX.ask _) (f:=fPChain) (fn:=fn fPChain) (code:=code fPChain) (by show X.px.P.funcs[fPChain]?=_;rw [hP];exact fnOk fPChain (by kernel_rfl)) (show (fn fPChain).body=some (code fPChain) by kernel_rfl)
  (i:=0) (ins:=[0,1,2,6,8,9]) (gh:=[]) (outs:=fun _=>[6,8,9]) (show ([0,1,2,6,8,9]:List Nat).Nodup by decide) (P:=P) (xs':=zaiU c e') (σ':=zah2 c us d n') (r':=r') (by
   show P->zab9 X.px.P X.px.gl _ _ _ _ _ _ _
   rw [hP,hg];exact ih) h
 show zab9 Tryz.prog gl0 _ _ _ _ _ _ _
 rw [<-hP,<-hg];exact this
theorem zanl {c:Ch}{ts':List AV}(h:FOk Tryz.prog gl0 c.f [pArg] (zacA ts d) (pOut ts' d n e)):(XC c ts ts' d n e).Sound:=zaaR.add (zaek (s:=spP ts ts' d n e) fun _ _=>h)
theorem zack {part:List Tk->R}{km:Int->Int}{m:Nat}{r:R}(h:r.e≠none):zaaL part km m r=r:=by
 cases m with
 | zero=>rw [zaaL]
 | succ m=>rw [zaaL,if_neg (fun q=>h q.1)]
theorem zaf8 {part:List Tk->R}{km:Int->Int}{m:Nat}{r:R}(h:km (zaab r.ts).kind=0):zaaL part km m r=r:=by
 cases m with
 | zero=>rw [zaaL]
 | succ m=>rw [zaaL,if_neg (fun q=>q.2 h)]
theorem zaHa (k:Int):zafw k [Value.int IntKind.i64 (7:Int),Value.int IntKind.i64 (8:Int)] [AV.lit (Value.int IntKind.i64 (2:Int)),AV.lit (Value.int IntKind.i64 (3:Int))]=kmE k:=by
 unfold kmE
 simp only [zafw,numA]
theorem zaH (k:Int):zafw k [Value.int IntKind.i64 (9:Int)] [AV.lit (Value.int IntKind.i64 (4:Int))]=kmT k:=by
 unfold kmT
 simp only [zafw,numA]
theorem kmE_ne {k:Int}(h:kmE k≠0):k=7∨k=8:=by grind [kmE]
theorem kmT_ne {k:Int}(h:kmT k≠0):k=9:=by grind [kmT]
attribute [local irreducible] runL runF in
theorem zaDe (ih:PFOk f)(h0:0<=d)(h1:d<=24):∀ (m:Nat) (r:R),okT r.ts->r.ts.length<=m->5*r.ts.length<=f ->
  BCh (zaiU chE (encE r.e)) (zah2 chE (r.ts.map encT) d (encP r.n)) (cOut chE ((zaaL (PF f .term d) kmE m r).ts.map encT) d (encP (zaaL (PF f .term d) kmE m r).n) (encE (zaaL (PF f .term d) kmE m r).e)):=by
 intro m
 induction m with
 | zero =>
  intro r hk hl _
  exact absurd (List.eq_nil_of_length_eq_zero (by omega)) (zahr hk)
 | succ m ihm =>
  intro r hk hl hf
  obtain ⟨n,e,us⟩:=r
  cases e with
  | some e =>
   obtain ⟨ek,ea⟩:=e
   rw [zack (fun h=>by cases h)]
   exact zacl (P:=False) zaaR rfl (fun h=>h.elim) (zaDn (us.map encT) d n ek ea h0 h1)
  | none =>
   match us,hk,hl,hf with
   | ⟨k,a,x⟩::r',hk,hl,hf =>
    have hl:r'.length+1<=m+1:=hl
    have hf:5*(r'.length+1)<=f:=hf
    by_cases hkm:kmE k=0
    · rw [zaf8 (r:=⟨n,none,⟨k,a,x⟩::r'⟩) hkm]
      exact zacl (P:=False) zaaR rfl (fun h=>h.elim) (zaDj k a x (r'.map encT) d n (by rw [zaHa,hkm];rfl) h0 h1)
    · have hk7:=kmE_ne hkm
      have hne:k≠11:=by rcases hk7 with rfl|rfl<;>decide
      have hr:=zabM hk hne
      have e1:zaaL (PF f .term d) kmE (m+1) ⟨n,none,⟨k,a,x⟩::r'⟩=zaaL (PF f .term d) kmE m ⟨.mk (kmE k) a 0 ByteArray.empty [n,(PF f .term d r').n],(PF f .term d r').e,(PF f .term d r').ts⟩:=by
        rw [zaaL,if_pos ⟨rfl,hkm⟩]
        show zaaL _ _ m ⟨.mk (kmE k) a 0 ByteArray.empty [n,(PF f .term d (zaal (⟨k,a,x⟩::r'))).n],(PF f .term d (zaal (⟨k,a,x⟩::r'))).e,(PF f .term d (zaal (⟨k,a,x⟩::r'))).ts⟩=_
        rw [zaaW hne]
      rw [e1]
      have hq:=ih .term d r' h0 h1 hr (by show 5*r'.length+4<=f;omega)
      have hi:=zaaS f .term d r' hr
      generalize PF f .term d r'=q at hq hi ⊢
      obtain ⟨qn,qe,qs⟩:=q
      have hq:FOk Tryz.prog gl0 (chE).f [pArg] (zacA (r'.map encT) d) (pOut (qs.map encT) d (encP qn) (encE qe)):=hq
      have hi2:qs.length<=r'.length:=hi.2
      have hB:=ihm ⟨.mk (kmE k) a 0 ByteArray.empty [n,qn],qe,qs⟩ hi.1 (show qs.length<=m by omega) (show 5*qs.length<=f by omega)
      dsimp only at hB ⊢
      rw [zaBw] at hB
      have herr:qe≠none->(zaaL (PF f .term d) kmE m ⟨.mk (kmE k) a 0 ByteArray.empty [n,qn],qe,qs⟩).e=qe:=fun h=>by rw [zack h]
      generalize zaaL (PF f .term d) kmE m ⟨.mk (kmE k) a 0 ByteArray.empty [n,qn],qe,qs⟩=z at hB herr ⊢
      obtain ⟨zn,ze,zs⟩:=z
      have herr:qe≠none->ze=qe:=herr
      have hB:BCh (zaiU chE (encE qe)) (zah2 chE (qs.map encT) d (zadZ (kmE k) a 0 ByteArray.empty [encP n,encP qn])) (cOut chE (zs.map encT) d (encP zn) (encE ze)):=hB
      rcases hk7 with rfl|rfl
      · cases qe with
        | some e =>
          obtain ⟨ek,ea⟩:=e
          obtain rfl:=herr (fun h=>by cases h)
          exact zacl (P:=True) (zanl hq) rfl (fun _=>hB) (zaA0 a x (r'.map encT) d n qn (qs.map encT) (zs.map encT) zn ek ea ek ea h0 h1)
        | none =>
          cases ze with
          | some e =>
            obtain ⟨ek,ea⟩:=e
            exact zacl (P:=True) (zanl hq) rfl (fun _=>hB) (zaAY a x (r'.map encT) d n qn (qs.map encT) (zs.map encT) zn ek ea h0 h1)
          | none=>exact zacl (P:=True) (zanl hq) rfl (fun _=>hB) (zaAW a x (r'.map encT) d n qn (qs.map encT) (zs.map encT) zn h0 h1)
      · cases qe with
        | some e =>
          obtain ⟨ek,ea⟩:=e
          obtain rfl:=herr (fun h=>by cases h)
          exact zacl (P:=True) (zanl hq) rfl (fun _=>hB) (zaAU a x (r'.map encT) d n qn (qs.map encT) (zs.map encT) zn ek ea ek ea h0 h1)
        | none =>
          cases ze with
          | some e =>
            obtain ⟨ek,ea⟩:=e
            exact zacl (P:=True) (zanl hq) rfl (fun _=>hB) (zaAS a x (r'.map encT) d n qn (qs.map encT) (zs.map encT) zn ek ea h0 h1)
          | none=>exact zacl (P:=True) (zanl hq) rfl (fun _=>hB) (zaAQ a x (r'.map encT) d n qn (qs.map encT) (zs.map encT) zn h0 h1)
attribute [local irreducible] runL runF in
theorem zaDd (ih:PFOk f)(h0:0<=d)(h1:d<=24):∀ (m:Nat) (r:R),okT r.ts->r.ts.length<=m->5*r.ts.length<=f ->
  BCh (zaiU chT (encE r.e)) (zah2 chT (r.ts.map encT) d (encP r.n)) (cOut chT ((zaaL (PF f .part d) kmT m r).ts.map encT) d (encP (zaaL (PF f .part d) kmT m r).n) (encE (zaaL (PF f .part d) kmT m r).e)):=by
 intro m
 induction m with
 | zero =>
  intro r hk hl _
  exact absurd (List.eq_nil_of_length_eq_zero (by omega)) (zahr hk)
 | succ m ihm =>
  intro r hk hl hf
  obtain ⟨n,e,us⟩:=r
  cases e with
  | some e =>
   obtain ⟨ek,ea⟩:=e
   rw [zack (fun h=>by cases h)]
   exact zacl (P:=False) zaaR rfl (fun h=>h.elim) (zaDl (us.map encT) d n ek ea h0 h1)
  | none =>
   match us,hk,hl,hf with
   | ⟨k,a,x⟩::r',hk,hl,hf =>
    have hl:r'.length+1<=m+1:=hl
    have hf:5*(r'.length+1)<=f:=hf
    by_cases hkm:kmT k=0
    · rw [zaf8 (r:=⟨n,none,⟨k,a,x⟩::r'⟩) hkm]
      exact zacl (P:=False) zaaR rfl (fun h=>h.elim) (zaDh k a x (r'.map encT) d n (by rw [zaH,hkm];rfl) h0 h1)
    · have hk7:=kmT_ne hkm
      have hne:k≠11:=by rw [hk7];decide
      have hr:=zabM hk hne
      have e1:zaaL (PF f .part d) kmT (m+1) ⟨n,none,⟨k,a,x⟩::r'⟩=zaaL (PF f .part d) kmT m ⟨.mk (kmT k) a 0 ByteArray.empty [n,(PF f .part d r').n],(PF f .part d r').e,(PF f .part d r').ts⟩:=by
        rw [zaaL,if_pos ⟨rfl,hkm⟩]
        show zaaL _ _ m ⟨.mk (kmT k) a 0 ByteArray.empty [n,(PF f .part d (zaal (⟨k,a,x⟩::r'))).n],(PF f .part d (zaal (⟨k,a,x⟩::r'))).e,(PF f .part d (zaal (⟨k,a,x⟩::r'))).ts⟩=_
        rw [zaaW hne]
      rw [e1]
      have hq:=ih .part d r' h0 h1 hr (by show 5*r'.length+3<=f;omega)
      have hi:=zaaS f .part d r' hr
      generalize PF f .part d r'=q at hq hi ⊢
      obtain ⟨qn,qe,qs⟩:=q
      have hq:FOk Tryz.prog gl0 (chT).f [pArg] (zacA (r'.map encT) d) (pOut (qs.map encT) d (encP qn) (encE qe)):=hq
      have hi2:qs.length<=r'.length:=hi.2
      have hB:=ihm ⟨.mk (kmT k) a 0 ByteArray.empty [n,qn],qe,qs⟩ hi.1 (show qs.length<=m by omega) (show 5*qs.length<=f by omega)
      dsimp only at hB ⊢
      rw [zaBw] at hB
      have herr:qe≠none->(zaaL (PF f .part d) kmT m ⟨.mk (kmT k) a 0 ByteArray.empty [n,qn],qe,qs⟩).e=qe:=fun h=>by rw [zack h]
      generalize zaaL (PF f .part d) kmT m ⟨.mk (kmT k) a 0 ByteArray.empty [n,qn],qe,qs⟩=z at hB herr ⊢
      obtain ⟨zn,ze,zs⟩:=z
      have herr:qe≠none->ze=qe:=herr
      have hB:BCh (zaiU chT (encE qe)) (zah2 chT (qs.map encT) d (zadZ (kmT k) a 0 ByteArray.empty [encP n,encP qn])) (cOut chT (zs.map encT) d (encP zn) (encE ze)):=hB
      subst hk7
      cases qe with
      | some e =>
        obtain ⟨ek,ea⟩:=e
        obtain rfl:=herr (fun h=>by cases h)
        exact zacl (P:=True) (zanl hq) rfl (fun _=>hB) (zaAO a x (r'.map encT) d n qn (qs.map encT) (zs.map encT) zn ek ea ek ea h0 h1)
      | none =>
        cases ze with
        | some e =>
          obtain ⟨ek,ea⟩:=e
          exact zacl (P:=True) (zanl hq) rfl (fun _=>hB) (zaAM a x (r'.map encT) d n qn (qs.map encT) (zs.map encT) zn ek ea h0 h1)
        | none=>exact zacl (P:=True) (zanl hq) rfl (fun _=>hB) (zaAK a x (r'.map encT) d n qn (qs.map encT) (zs.map encT) zn h0 h1)
theorem addexpr {r:Ex × Back}(h:FOk Tryz.prog gl0 (chE).f [pArg] (zacA ts d) (pOut us d n e))(hB:BCh (zaiU chE e) (zah2 chE us d n) r):((XC chE ts us d n e).addLp fPChain 0 (lpCh chE True us d n e r)).Sound :=
 (zanl h).addLp (fnOk fPChain (by kernel_rfl)) (show (fn fPChain).body=some (code fPChain) by kernel_rfl) (by kernel_rfl)
  (Spl.okW (L:=lpCh chE True us d n e r) (l:=[⟨Unit,fun _=>True,fun _=>zaiU chE e,fun _=>zah2 chE us d n,fun _=>r⟩]) rfl (show ([0,1,2,6,8,9]:List Nat).Nodup by decide) fun s hs i _=>by obtain rfl:=List.mem_singleton.1 hs;exact hB)
attribute [local irreducible] runL runF in
theorem zao7 (ih:PFOk f){ts:List Tk}(h0:0<=d)(h1:d<=24)(hk:okT ts)(hf:5*ts.length+5<=f+1):PR zacv d ts (PF (f+1) .expr d ts):=by
 rw [PF]
 have hq:=ih .term d ts h0 h1 hk (by show 5*ts.length+4<=f;omega)
 have hi:=zaaS f .term d ts hk
 generalize PF f .term d ts=q at hq hi ⊢
 obtain ⟨qn,qe,qs⟩:=q
 have hq:FOk Tryz.prog gl0 (chE).f [pArg] (zacA (ts.map encT) d) (pOut (qs.map encT) d (encP qn) (encE qe)):=hq
 have hi2:qs.length<=ts.length:=hi.2
 have hB:=zaDe ih h0 h1 f ⟨qn,qe,qs⟩ hi.1 (show qs.length<=f by omega) (show 5*qs.length<=f by omega)
 have herr:qe≠none->(zaaL (PF f .term d) kmE f ⟨qn,qe,qs⟩).e=qe:=fun h=>by rw [zack h]
 generalize zaaL (PF f .term d) kmE f ⟨qn,qe,qs⟩=z at hB herr ⊢
 obtain ⟨zn,ze,zs⟩:=z
 have herr:qe≠none->ze=qe:=herr
 have hB:BCh (zaiU chE (encE qe)) (zah2 chE (qs.map encT) d (encP qn)) (cOut chE (zs.map encT) d (encP zn) (encE ze)):=hB
 cases qe with
 | some e =>
  obtain ⟨ek,ea⟩:=e
  obtain rfl:=herr (fun h=>by cases h)
  exact zauh (addexpr hq hB) rfl (zazT (ts.map encT) (qs.map encT) d qn (zs.map encT) zn ek ea ek ea h0 h1)
 | none =>
  cases ze with
  | some e =>
   obtain ⟨ek,ea⟩:=e
   exact zauh (addexpr hq hB) rfl (zazR (ts.map encT) (qs.map encT) d qn (zs.map encT) zn ek ea h0 h1)
  | none=>exact zauh (addexpr hq hB) rfl (zazP (ts.map encT) (qs.map encT) d qn (zs.map encT) zn h0 h1)
theorem addterm {r:Ex × Back}(h:FOk Tryz.prog gl0 (chT).f [pArg] (zacA ts d) (pOut us d n e))(hB:BCh (zaiU chT e) (zah2 chT us d n) r):((XC chT ts us d n e).addLp fPChain 0 (lpCh chT True us d n e r)).Sound :=
 (zanl h).addLp (fnOk fPChain (by kernel_rfl)) (show (fn fPChain).body=some (code fPChain) by kernel_rfl) (by kernel_rfl)
  (Spl.okW (L:=lpCh chT True us d n e r) (l:=[⟨Unit,fun _=>True,fun _=>zaiU chT e,fun _=>zah2 chT us d n,fun _=>r⟩]) rfl (show ([0,1,2,6,8,9]:List Nat).Nodup by decide) fun s hs i _=>by obtain rfl:=List.mem_singleton.1 hs;exact hB)
attribute [local irreducible] runL runF in
theorem zanK (ih:PFOk f){ts:List Tk}(h0:0<=d)(h1:d<=24)(hk:okT ts)(hf:5*ts.length+4<=f+1):PR zafa d ts (PF (f+1) .term d ts):=by
 rw [PF]
 have hq:=ih .part d ts h0 h1 hk (by show 5*ts.length+3<=f;omega)
 have hi:=zaaS f .part d ts hk
 generalize PF f .part d ts=q at hq hi ⊢
 obtain ⟨qn,qe,qs⟩:=q
 have hq:FOk Tryz.prog gl0 (chT).f [pArg] (zacA (ts.map encT) d) (pOut (qs.map encT) d (encP qn) (encE qe)):=hq
 have hi2:qs.length<=ts.length:=hi.2
 have hB:=zaDd ih h0 h1 f ⟨qn,qe,qs⟩ hi.1 (show qs.length<=f by omega) (show 5*qs.length<=f by omega)
 have herr:qe≠none->(zaaL (PF f .part d) kmT f ⟨qn,qe,qs⟩).e=qe:=fun h=>by rw [zack h]
 generalize zaaL (PF f .part d) kmT f ⟨qn,qe,qs⟩=z at hB herr ⊢
 obtain ⟨zn,ze,zs⟩:=z
 have herr:qe≠none->ze=qe:=herr
 have hB:BCh (zaiU chT (encE qe)) (zah2 chT (qs.map encT) d (encP qn)) (cOut chT (zs.map encT) d (encP zn) (encE ze)):=hB
 cases qe with
 | some e =>
  obtain ⟨ek,ea⟩:=e
  obtain rfl:=herr (fun h=>by cases h)
  exact zarv (addterm hq hB) rfl (zayI (ts.map encT) (qs.map encT) d qn (zs.map encT) zn ek ea ek ea h0 h1)
 | none =>
  cases ze with
  | some e =>
   obtain ⟨ek,ea⟩:=e
   exact zarv (addterm hq hB) rfl (zayG (ts.map encT) (qs.map encT) d qn (zs.map encT) zn ek ea h0 h1)
  | none=>exact zarv (addterm hq hB) rfl (zayE (ts.map encT) (qs.map encT) d qn (zs.map encT) zn h0 h1)
theorem zaGA:∀ f,PFOk f
 | 0=>fun lv d ts _ _ hk hf=>by
  have:0<ts.length:=List.length_pos_iff.2 (zahr hk)
  omega
 | f+1=>fun lv d ts h0 h1 hk hf=>by
  have ih:=zaGA f
  cases lv with
  | expr=>exact zao7 ih h0 h1 hk hf
  | term=>exact zanK ih h0 h1 hk hf
  | part=>exact zaoh ih h0 h1 hk hf
  | ranged=>exact zaj8 ih h0 h1 hk hf
  | atom=>exact zapi ih h0 h1 hk hf
inductive ParR where
 | long
 | bad (k a:Int)
 | ok (n:Nd)
def zakc (r:R):ParR:=match r.e with
 | some (k,a) => .bad k a
 | none=>if (zaab r.ts).kind=11 then .ok r.n else .bad 15 (zaab r.ts).at_
def parL:LexR->ParR
 | .long => .long
 | .bad i => .bad 15 i
 | .ok ts=>zakc (PF (5*ts.length+5) .expr 0 ts)
def zagv (s:ByteArray):ParR:=parL (lexS s)
def zaAw:ParR->AV
 | .long => .tup [encP Nd.zero,.iface zai (i0 5)]
 | .bad k a => .tup [encP Nd.zero,zaau k a]
 | .ok n => .tup [encP n,nilE]
def zaDQ (s:ByteArray)(x:AV):Sp := .pure Unit (fun _=>True) (fun _=>[s0 s]) (fun _=>x)
def gPar (X:WX)(os:Orc)(s:ByteArray)(x:AV):Prop:=runF (X.ask [zacg,zaiK,zaue,zafD]) 12 zacg (fn zacg) (code zacg) os 0 [] [s0 s] .nil ⟨x,.nil,[]⟩
def XL (s:ByteArray)(x:AV):WX:=XT.add fLex (Sp.con [zaDQ s x])
def XLP (s:ByteArray)(ts ts':List AV)(n e:AV):WX:=(XL s (.tup [.lst false 3 ts,.lit .nilIface])).add zacv (Sp.con [spP ts ts' 0 n e])
def zaF3 (os:Orc)(s:ByteArray):Prop:=gPar (XL s (.tup [.lst false 3 [],.iface zai (i0 5)])) os s (.tup [encP Nd.zero,.iface zai (i0 5)])
def zaF5 (os:Orc)(s:ByteArray)(i:Int):Prop:=gPar (XL s (.tup [.lst false 3 [],zaau 15 i])) os s (.tup [encP Nd.zero,zaau 15 i])
def zaF4 (os:Orc)(s:ByteArray)(ts ts':List AV)(n:Nd)(k a:Int):Prop:=gPar (XLP s ts ts' (encP n) (zaau k a)) os s (.tup [encP Nd.zero,zaau k a])
def zaF2 (os:Orc)(s:ByteArray)(ts:List AV)(a:Int)(x:ByteArray)(r:List AV)(n:Nd):Prop:=gPar (XLP s ts (tokV 11 a x::r) (encP n) nilE) os s (.tup [encP n,nilE])
def zaF1 (os:Orc)(s:ByteArray)(ts:List AV)(k a:Int)(x:ByteArray)(r:List AV)(n:Nd):Prop:=gPar (XLP s ts (tokV k a x::r) (encP n) nilE) os s (.tup [encP Nd.zero,zaau 15 a])
variable {xs:List AV}
theorem FOk.drop {P:Program}{gl:Nat->Option AV}{f:FuncId}{x:AV}{σ:Hp}{ws:List Nat}(h:FOk P gl f xs .nil ⟨x,σ,ws⟩):FOk P gl f xs .nil ⟨x,.nil,[]⟩:=by
 intro E w vals hg hh hf hn hv
 refine (h E w vals hg hh hf hn hv).imp ?_
 rintro v w' ⟨os,q,E',rfl,k1,k2,k3,k4⟩
 have no:∀ {b:Nat} {F:Env},¬Own F .nil b:=fun ⟨k,e,L,hk,_⟩=>by rw [zaax] at hk;cases hk
 exact ⟨os,_,E',rfl,⟨fun _ _=>rfl,fun l e he=>⟨e,he⟩⟩,k2,⟨k3.imm,fun l e he=>(by rw [zaax] at he;cases he),fun b hb=>absurd hb no,fun l _ e _ _ _ _ he=>(by rw [zaax] at he;cases he)⟩,⟨k4.le,k4.os,k4.tape,k4.output,k4.size,k4.kept,fun b hb=>absurd hb no,k4.mNew⟩⟩
theorem FOk.glob {P:Program}{gl gl':Nat->Option AV}{f:FuncId}{σ:Hp}{r:Back}(hg:∀ g x,gl g=some x->gl' g=some x)(h:FOk P gl f xs σ r):FOk P gl' f xs σ r :=
 fun E w vals hG hh hf hn hv=>h E w vals (fun g x hx=>hG g x (hg g x hx)) hh hf hn hv
abbrev zaoR:Nat:=0
abbrev tRty:Nat:=167
abbrev zaB6:Nat:=47
def errT:AV := .ref (.lit (.iface tRty (.agg #[.pointer (some ⟨7,zaB6,none⟩)])))
def glE (g:Nat):Option AV:=bsel (Nat.beq g zaoR) (some errT) (gl0 g)
theorem zaxL (g:Nat)(x:AV)(h:gl0 g=some x):glE g=some x:=by
 unfold glE
 cases hb:Nat.beq g zaoR
 · exact h
 · obtain rfl:=Nat.eq_of_beq_eq_true hb
   have:gl0 zaoR=none:=by kernel_rfl
   rw [this] at h;cases h
def extE (f:FuncId):Option (Go.AS.Id->Nat->List AV->Hp->Option Res) :=
 (bsel (Nat.beq f 103) (some (zah8 Tryz.prog))
 (bsel (Nat.beq f 104) (some (zaBX Tryz.prog))
 (bsel (Nat.beq f 105) (some (zasR Tryz.prog))
 (bsel (Nat.beq f 123) (some (zak3 Tryz.prog))
 (bsel (Nat.beq f 124) (some (zaD Tryz.prog))
 (bsel (Nat.beq f 125) (some (setX Tryz.prog))
 (bsel (Nat.beq f 129) (some (pureX Tryz.prog (Extern.BytealgIndexByte.indexByte)))
 (bsel (Nat.beq f 195) (some (pureX Tryz.prog (Extern.ReflectliteType.abiMethod fun t=>do pure (.int .u8 (<-Extern.Rtype.kind t)))))
 (bsel (Nat.beq f 205) (some (pureX Tryz.prog (Extern.ReflectliteType.relation "AssignableTo" Extern.ReflectliteType.assignableTo)))
 (bsel (Nat.beq f 206) (some (pureX Tryz.prog (Extern.ReflectliteType.method fun t=>do Extern.Rtype.noPackHeld "Comparable" t;pure (.bool (<-typeInfo t).comparable))))
 (bsel (Nat.beq f 207) (some (pureX Tryz.prog (Extern.ReflectliteType.method Extern.ReflectliteType.elem)))
 (bsel (Nat.beq f 208) (some (pureX Tryz.prog (Extern.ReflectliteType.relation "Implements" Extern.ReflectliteType.implements_)))
 none))))))))))))
def XRE:PX:={ P:=Tryz.prog,gl:=glE,ext:=extE,own:=fun _ _=>true,m:=100000 }
theorem zaHr:IsExt Tryz.prog 103 (fn 103) (fun args=>Extern.ReflectliteValue.unpack (args.getD 0 (.tuple #[]))):=⟨fnOk _ (by kernel_rfl),by kernel_rfl,by kernel_rfl,by kernel_rfl,by kernel_rfl⟩
theorem zaHq:IsExt Tryz.prog 104 (fn 104) (Extern.ReflectliteValue.methodAny (Extern.ReflectliteValue.valueError "reflectlite.Value.Type" 0) fun t _ _ _=>Extern.ReflectliteType.toType t):=⟨fnOk _ (by kernel_rfl),by kernel_rfl,by kernel_rfl,by kernel_rfl,by kernel_rfl⟩
theorem zaHp:IsExt Tryz.prog 105 (fn 105) (Extern.ReflectliteValue.method (Extern.ReflectliteValue.valueError "reflectlite.Value.IsNil" 0) Extern.ReflectliteValue.isNil):=⟨fnOk _ (by kernel_rfl),by kernel_rfl,by kernel_rfl,by kernel_rfl,by kernel_rfl⟩
theorem zaHo:IsExt Tryz.prog 123 (fn 123) (Extern.ReflectliteType.typeOf):=⟨fnOk _ (by kernel_rfl),by kernel_rfl,by kernel_rfl,by kernel_rfl,by kernel_rfl⟩
theorem zaHn:IsExt Tryz.prog 124 (fn 124) (Extern.ReflectliteValue.method (Extern.ReflectliteValue.valueError "reflectlite.Value.Elem" 0) Extern.ReflectliteValue.elem):=⟨fnOk _ (by kernel_rfl),by kernel_rfl,by kernel_rfl,by kernel_rfl,by kernel_rfl⟩
theorem zaHm:IsExt Tryz.prog 125 (fn 125) (Extern.ReflectliteValue.set):=⟨fnOk _ (by kernel_rfl),by kernel_rfl,by kernel_rfl,by kernel_rfl,by kernel_rfl⟩
theorem zaHl:IsExt Tryz.prog 129 (fn 129) (Extern.BytealgIndexByte.indexByte):=⟨fnOk _ (by kernel_rfl),by kernel_rfl,by kernel_rfl,by kernel_rfl,by kernel_rfl⟩
theorem zaHk:IsExt Tryz.prog 195 (fn 195) (Extern.ReflectliteType.abiMethod fun t=>do pure (.int .u8 (<-Extern.Rtype.kind t))):=⟨fnOk _ (by kernel_rfl),by kernel_rfl,by kernel_rfl,by kernel_rfl,by kernel_rfl⟩
theorem zaHj:IsExt Tryz.prog 205 (fn 205) (Extern.ReflectliteType.relation "AssignableTo" Extern.ReflectliteType.assignableTo):=⟨fnOk _ (by kernel_rfl),by kernel_rfl,by kernel_rfl,by kernel_rfl,by kernel_rfl⟩
theorem zaHi:IsExt Tryz.prog 206 (fn 206) (Extern.ReflectliteType.method fun t=>do Extern.Rtype.noPackHeld "Comparable" t;pure (.bool (<-typeInfo t).comparable)):=⟨fnOk _ (by kernel_rfl),by kernel_rfl,by kernel_rfl,by kernel_rfl,by kernel_rfl⟩
theorem zaCw:IsExt Tryz.prog 207 (fn 207) (Extern.ReflectliteType.method Extern.ReflectliteType.elem):=⟨fnOk _ (by kernel_rfl),by kernel_rfl,by kernel_rfl,by kernel_rfl,by kernel_rfl⟩
theorem zaCv:IsExt Tryz.prog 208 (fn 208) (Extern.ReflectliteType.relation "Implements" Extern.ReflectliteType.implements_):=⟨fnOk _ (by kernel_rfl),by kernel_rfl,by kernel_rfl,by kernel_rfl,by kernel_rfl⟩
theorem zavy:XRE.Sound:=by
 refine ⟨by kernel_rfl,fun g x h => ?_,fun f g h => ?_⟩
 · have h:bsel (Nat.beq g zaoR) (some errT) (gl0 g)=some x:=h
   cases hb:Nat.beq g zaoR
   · rw [hb,zaai] at h;exact zaic.2 g x h
   · rw [hb,zaam] at h;cases h;intro M;rfl
 have h:extE f=some g:=h
 unfold extE at h
 cases hb0:Nat.beq f 103
 · rw [hb0,zaai] at h
   cases hb1:Nat.beq f 104
   · rw [hb1,zaai] at h
     cases hb2:Nat.beq f 105
     · rw [hb2,zaai] at h
       cases hb3:Nat.beq f 123
       · rw [hb3,zaai] at h
         cases hb4:Nat.beq f 124
         · rw [hb4,zaai] at h
           cases hb5:Nat.beq f 125
           · rw [hb5,zaai] at h
             cases hb6:Nat.beq f 129
             · rw [hb6,zaai] at h
               cases hb7:Nat.beq f 195
               · rw [hb7,zaai] at h
                 cases hb8:Nat.beq f 205
                 · rw [hb8,zaai] at h
                   cases hb9:Nat.beq f 206
                   · rw [hb9,zaai] at h
                     cases hb10:Nat.beq f 207
                     · rw [hb10,zaai] at h
                       cases hb11:Nat.beq f 208
                       · rw [hb11,zaai] at h
                         cases h
                       · rw [hb11,zaam] at h;cases h
                         obtain rfl:=Nat.eq_of_beq_eq_true hb11
                         exact zacq (C:=cx XRE 208 fun _ _ _ _ _=>none) zaCv
                     · rw [hb10,zaam] at h;cases h
                       obtain rfl:=Nat.eq_of_beq_eq_true hb10
                       exact zacq (C:=cx XRE 207 fun _ _ _ _ _=>none) zaCw
                   · rw [hb9,zaam] at h;cases h
                     obtain rfl:=Nat.eq_of_beq_eq_true hb9
                     exact zacq (C:=cx XRE 206 fun _ _ _ _ _=>none) zaHi
                 · rw [hb8,zaam] at h;cases h
                   obtain rfl:=Nat.eq_of_beq_eq_true hb8
                   exact zacq (C:=cx XRE 205 fun _ _ _ _ _=>none) zaHj
               · rw [hb7,zaam] at h;cases h
                 obtain rfl:=Nat.eq_of_beq_eq_true hb7
                 exact zacq (C:=cx XRE 195 fun _ _ _ _ _=>none) zaHk
             · rw [hb6,zaam] at h;cases h
               obtain rfl:=Nat.eq_of_beq_eq_true hb6
               exact zacq (C:=cx XRE 129 fun _ _ _ _ _=>none) zaHl
           · rw [hb5,zaam] at h;cases h
             obtain rfl:=Nat.eq_of_beq_eq_true hb5
             exact zaCg (C:=cx XRE 125 fun _ _ _ _ _=>none) zaHm
         · rw [hb4,zaam] at h;cases h
           obtain rfl:=Nat.eq_of_beq_eq_true hb4
           exact zaAy (C:=cx XRE 124 fun _ _ _ _ _=>none) zaHn
       · rw [hb3,zaam] at h;cases h
         obtain rfl:=Nat.eq_of_beq_eq_true hb3
         exact zanE (C:=cx XRE 123 fun _ _ _ _ _=>none) zaHo
     · rw [hb2,zaam] at h;cases h
       obtain rfl:=Nat.eq_of_beq_eq_true hb2
       exact zasQ (C:=cx XRE 105 fun _ _ _ _ _=>none) zaHp
   · rw [hb1,zaam] at h;cases h
     obtain rfl:=Nat.eq_of_beq_eq_true hb1
     exact zavg (C:=cx XRE 104 fun _ _ _ _ _=>none) zaHq
 · rw [hb0,zaam] at h;cases h
   obtain rfl:=Nat.eq_of_beq_eq_true hb0
   exact zak2 (C:=cx XRE 103 fun _ _ _ _ _=>none) zaHr
abbrev FE (f:Nat)(xs:List AV)(r:AV):Prop:=FOk Tryz.prog glE f xs .nil ⟨r,.nil,[]⟩
theorem zaBm {f n:Nat}{x:AV}(h:zaC4 (S XRE n f xs 1 .nil [])=some x):FE f xs x:=by
 cases hs:S XRE n f xs 1 .nil [] with
 | none=>rw [hs] at h;cases h
 | some r =>
  obtain ⟨y,c,σ,ws⟩:=r
  rw [hs] at h
  have h:some y=some x:=h
  cases h
  refine FOk.drop (σ:=σ) (ws:=ws) ?_
  intro E w vals hg hh hf _ hv
  obtain ⟨h1,h2⟩:=S_ok zavy n f xs 1 .nil [] x c σ ws hs
  refine (h2 E w vals hg hh hf hv).imp ?_
  rintro v w' ⟨E',k1,k2,k3,_⟩
  exact ⟨.z,_,E',rfl,⟨fun l hl=>(h1.same l hl).2,h1.keep⟩,k1,k2,k3⟩
abbrev zaAq:Nat:=33
abbrev fAtE:Nat:=34
abbrev zamD:Nat:=11
theorem zasK:FE zaAq [.lit .nilIface] (i0 0):=zaBm (n:=100) (by kernel_rfl)
theorem zasL (k a:Int):FE zaAq [zaau k a] (i0 k):=zaBm (n:=100) (by kernel_rfl)
theorem zaDo (k a:Int):FE fAtE [zaau k a] (i0 a):=zaBm (n:=100) (by kernel_rfl)
end
end Go.Proofs.YtpofhijgccocpaaGreatDoor
end
section
namespace Go.Proofs.YtpofhijgccocpaaGreatDoor
abbrev zabj:Nat:=36
abbrev zabu:Nat:=9
abbrev zabN:Nat:=77
abbrev zabG:Nat:=39
abbrev fXIs:Nat:=38
abbrev zaar:Nat:=127
abbrev zabt:Nat:=146
abbrev zaap:Nat:=37
abbrev zaaY:Nat:=76
abbrev zaaU:Nat:=107
abbrev zaat:Nat:=126
abbrev zaac:Nat:=139
abbrev zabe:Nat:=48
abbrev zaae:Nat:=148
abbrev zamA:Nat:=75
abbrev zaaH:Nat:=147
abbrev fXCut:Nat:=40
end Go.Proofs.YtpofhijgccocpaaGreatDoor
end
section
namespace Go.Proofs.YtpofhijgccocpaaGreatDoor
open Go.AS Go.TP
noncomputable section
abbrev rgV (k a n:Int)(t:ByteArray)(ks:List AV):AV := .agg [i0 k,i0 a,i0 n,s0 t,.lst false 1 ks]
abbrev xSl (c n:Nat):AV := .slc 1048577 [0,c] 0 n
abbrev xRow (ts:List AV)(k d:Int)(o:AV)(bad pl:Int):AV := .agg [.lst false 3 ts,i0 k,i0 d,o,i0 bad,i0 pl]
def xHp (c:Nat)(ts:List AV)(k d:Int)(xs:List AV)(bad pl:Int):Hp:=hpL [(1048577,⟨[0,c],.row true 5 xs⟩),(1048578,⟨[1,0],.row false 6 [xRow ts k d (xSl c xs.length) bad pl]⟩)]
def xArg:AV := .ptr 1048578 [1,0] 0 0
def askX:List Nat:=[zabN,zabG,fXIs,zaar,zabt,zaap,zaaY,zaaU,zaat,zaac,zabu]
def gY (X:WX)(f:Nat)(os:Orc)(ys:List AV)(σ:Hp)(r:Back):Prop:=runF X 14 f (fn f) (code f) os 0 [] (xArg::ys) σ r
def spX (ys:List AV)(σ:Hp)(r:Back):Sp:=⟨Unit,fun _=>True,fun _=>xArg::ys,fun _=>σ,fun _=>r⟩
def XI:WX:=((XB.ask askX).askAt fXIs [19,21])
def XAd:WX:=((XB.ask askX).askAt zabN [13])
def XFl:WX:=((XB.ask askX).askAt zabG [23,25])
def xIs (os:Orc)(ts:List AV)(k d:Int)(xs:List AV)(pl c:Int)(b:Bool):Prop:=gY XI fXIs os [i0 c] (xHp 0 ts k d xs 0 pl) ⟨b0 b,xHp 0 ts k d xs 0 pl,[]⟩
def xIsB (os:Orc)(ts:List AV)(k d:Int)(xs:List AV)(bad pl c:Int):Prop:=gY XI fXIs os [i0 c] (xHp 0 ts k d xs bad pl) ⟨b0 false,xHp 0 ts k d xs bad pl,[]⟩
def zaDD (os:Orc)(ts:List AV)(k d:Int)(xs:List AV)(pl e a:Int):Prop:=gY XFl zabG os [i0 e] (xHp 0 ts k d xs 0 pl) ⟨i0 0,xHp 0 ts k d xs e a,[1048578]⟩
def zau4 (os:Orc)(ts:List AV)(k d:Int)(xs:List AV)(bad pl e:Int):Prop:=gY XFl zabG os [i0 e] (xHp 0 ts k d xs bad pl) ⟨i0 0,xHp 0 ts k d xs bad pl,[]⟩
def xAdd (os:Orc)(ts:List AV)(k d:Int)(xs:List AV)(bad pl kk a m:Int)(t:ByteArray)(ks:List AV):Prop:=gY XAd zabN os [rgV kk a m t ks] (xHp 0 ts k d xs bad pl) ⟨i0 xs.length,xHp 1 ts k d (xs++[rgV kk a m t ks]) bad pl,[1048577,1048578]⟩
def zau5 (os:Orc)(ts:List AV)(k d:Int)(xs:List AV)(bad pl:Int):Prop:=gY (XB.ask askX) zaar os [] (xHp 0 ts k d xs bad pl) ⟨b0 true,xHp 0 ts (k+1) (d+1) xs bad pl,[1048578]⟩
def XD (ts:List AV)(k d:Int)(xs:List AV)(bad pl bad' pl' e:Int):WX:=(XB.add zabG (Sp.con [spX [i0 e] (xHp 0 ts k d xs bad pl) ⟨i0 0,xHp 0 ts k d xs bad' pl',[1048578]⟩])).ask askX
def zau6 (os:Orc)(ts:List AV)(k d:Int)(xs:List AV)(bad pl bad' pl':Int):Prop:=gY (XD ts k d xs bad pl bad' pl' 16) zaar os [] (xHp 0 ts k d xs bad pl) ⟨b0 false,xHp 0 ts k d xs bad' pl',[1048578]⟩
def XW (ts:List AV)(k d:Int)(xs:List AV)(bad pl bad' pl' c:Int)(b:Bool):WX:=((XB.add zabG (Sp.con [spX [i0 15] (xHp 0 ts k d xs bad pl) ⟨i0 0,xHp 0 ts k d xs bad' pl',[1048578]⟩])).add fXIs (Sp.con [spX [i0 c] (xHp 0 ts k d xs bad pl) ⟨b0 b,xHp 0 ts k d xs bad pl,[]⟩])).ask askX
def zau1 (os:Orc)(ts:List AV)(k d:Int)(xs:List AV)(bad pl bad' pl' c:Int):Prop:=gY (XW ts k d xs bad pl bad' pl' c true) zabt os [i0 c] (xHp 0 ts k d xs bad pl) ⟨b0 true,xHp 0 ts (k+1) d xs bad pl,[1048578]⟩
def zau2 (os:Orc)(ts:List AV)(k d:Int)(xs:List AV)(bad pl bad' pl' c:Int):Prop:=gY (XW ts k d xs bad pl bad' pl' c false) zabt os [i0 c] (xHp 0 ts k d xs bad pl) ⟨b0 false,xHp 0 ts k d xs bad' pl',[1048578]⟩
end
end Go.Proofs.YtpofhijgccocpaaGreatDoor
end
section
namespace Go.Proofs.YtpofhijgccocpaaGreatDoor
open Go Go.AS Go.TP
noncomputable abbrev zaBv:=AV.agg [i0 0,i0 0,i0 0,s0 (Nd.text (Nd.mk (0:Int) (0:Int) (0:Int) ByteArray.empty [])),L5 (encL (Nd.kids (Nd.mk (0:Int) (0:Int) (0:Int) ByteArray.empty [])))]
theorem zaty (s:ByteArray):zaF3 (Orc.t Orc.z) s=(U1 [s0 s] [] (Yt (Wk (AV.tup [AV.agg [i0 0,i0 0,i0 0,s0 ⟨⟨[]⟩⟩,AV.lit (Value.slice none 0 0)],AV.iface 26 (i0 5)]) (AV.tup [(zaBv),AV.iface 26 (i0 5)])/\S0))):=by kernel_rfl
theorem zatC (s:ByteArray)(i:Int):zaF5 (Orc.t Orc.z) s i=(let z1:=AV.iface 118 (AV.ref (AV.agg [i0 i,AV.iface 26 (i0 15)]));U1 [s0 s] [] (Yt (Wk (AV.tup [AV.agg [i0 0,i0 0,i0 0,s0 ⟨⟨[]⟩⟩,AV.lit (Value.slice none 0 0)],z1]) (AV.tup [(zaBv),z1])/\S0))):=by kernel_rfl
theorem zatA (s:ByteArray)(ts ts':List AV)(n:Nd)(k a:Int):zaF4 (Orc.f (Orc.f (Orc.t Orc.z))) s ts ts' n k a=(let z1:=AV.iface 118 (AV.ref (AV.agg [i0 a,AV.iface 26 (i0 k)]));let z2:=[eR 1048577 [0,0] 2 [AV.agg [L3 ts,i0 0]]];U1 [s0 s] [] (Nf (U1 [AV.ptr 1048577 [0,0] 0 0] z2 (Nf (Yt (Wk (AV.tup [AV.agg [i0 0,i0 0,i0 0,s0 ⟨⟨[]⟩⟩,AV.lit (Value.slice none 0 0)],z1]) (AV.tup [(zaBv),z1])/\S0)))))):=by kernel_rfl
def zaxa:Orc:=Orc.f (Orc.t (Orc.f (Orc.f (Orc.f Orc.z))))
theorem zatw (s:ByteArray)(ts:List AV)(a:Int)(x:ByteArray)(r:List AV)(n:Nd):zaF2 zaxa s ts a x r n=(let z1:=[eR 1048577 [0,0] 2 [AV.agg [L3 ts,i0 0]]];let z2:=(AV.tup [encP n,AV.lit Value.nilIface]);U1 [s0 s] [] (Nf (U1 [AV.ptr 1048577 [0,0] 0 0] z1 (Yt (Nf (Nf (Nf (Wk z2 z2/\S0)))))))):=by kernel_rfl
def zax:Orc:=Orc.f (Orc.t (Orc.t (Orc.t Orc.z)))
theorem zatu (s:ByteArray)(ts:List AV)(k a:Int)(x:ByteArray)(r:List AV)(n:Nd):zaF1 zax s ts k a x r n=(let z1:=AV.iface 118 (AV.ref (AV.agg [i0 a,AV.iface 26 (i0 15)]));let z2:=[eR 1048577 [0,0] 2 [AV.agg [L3 ts,i0 0]]];U1 [s0 s] [] (Nf (U1 [AV.ptr 1048577 [0,0] 0 0] z2 (Yt ((k != 11)=true/\Yt (Wk (AV.tup [AV.agg [i0 0,i0 0,i0 0,s0 ⟨⟨[]⟩⟩,AV.lit (Value.slice none 0 0)],z1]) (AV.tup [(zaBv),z1])/\S0)))))):=by kernel_rfl
end Go.Proofs.YtpofhijgccocpaaGreatDoor
end
section
namespace Go.Proofs.YtpofhijgccocpaaGreatDoor
open Go.AS Go.TP
noncomputable section
theorem zakX (s:ByteArray):zacz s≠11:=by grind [zacz]
theorem zarK (c:Nat)(s:ByteArray):(zafi c s).1≠11:=by
 unfold zafi
 repeat' split
 all_goals decide
theorem zawX (s:ByteArray):(oneS s).1≠11:=by
 unfold oneS
 split
 · exact zakX _
 · exact zarK _ _
theorem zaqi:∀ (ts:List Tk) (e:Tk),(∀ t∈ts,t.kind≠11/\t.text.size<=600)->e.kind=11->e.text.size<=600->okT (ts++[e])
 | [],e,_,h1,h2=>⟨h2,h1⟩
 | t::ts,e,h,h1,h2=>by
  have ih:=zaqi ts e (fun u hu=>h u (List.mem_cons_of_mem _ hu)) h1 h2
  have ht:=h t (List.mem_cons_self ..)
  show okT (t::(ts++[e]))
  cases hc:ts++[e] with
  | nil=>simp at hc
  | cons u r=>rw [hc] at ih;exact ⟨ht.2,ht.1,ih⟩
theorem zaqC (s:ByteArray)(hs:s.size<=600):∀ (f:Nat) (i:Int) (out ts:List Tk),(∀ t∈out,t.kind≠11/\t.text.size<=600)->lexG s f i out=(none,ts)->∀ t∈ts,t.kind≠11/\t.text.size<=600:=by
 intro f
 induction f with
 | zero=>intro i out ts h e;cases e;exact h
 | succ f ih =>
  intro i out ts h e
  rw [lexG] at e
  by_cases hi:i<s.size
  · rw [if_pos hi] at e
    by_cases hb:zabC (zaaa s i.toNat)=true
    · rw [if_pos hb] at e;exact ih _ _ _ h e
    · rw [if_neg hb] at e
      have e:(if (oneS (zaaK s i)).1=0 then (some i,[]) else lexG s f (i+(oneS (zaaK s i)).2) (out++[zahY s i]))=(none,ts):=e
      by_cases ho:(oneS (zaaK s i)).1=0
      · rw [if_pos ho] at e;cases e
      · rw [if_neg ho] at e
        refine ih _ _ _ (fun t ht => ?_) e
        rcases List.mem_append.1 ht with ht|ht
        · exact h t ht
        · obtain rfl:=List.mem_singleton.1 ht
          refine ⟨zawX _,?_⟩
          show (s.extract _ _).size<=600
          rw [ByteArray.size_extract];omega
  · rw [if_neg hi] at e;cases e;exact h
variable {s:ByteArray}
theorem zajA {ts:List Tk}(h:lexS s = .ok ts):okT ts:=by
 unfold lexS at h
 by_cases hs:600<s.size
 · rw [if_pos hs] at h;cases h
 · rw [if_neg hs] at h
   have hg:=zaqC s (by omega) s.size 0 []
   generalize lexG s s.size 0 []=R at h hg
   obtain ⟨_|j,us⟩:=R
   · cases h
     exact zaqi us _ (hg us (fun t ht=>by cases ht) rfl) rfl (Nat.zero_le _)
   · cases h
theorem zai2:Wk (.agg [i0 0,i0 0,i0 0,s0 ByteArray.empty,.lit (.slice none 0 0)]) zauK := .agg (.cons (.refl _) (.cons (.refl _) (.cons (.refl _) (.cons (.refl _) (.cons .nilS .nil)))))
theorem zatz (s:ByteArray):zaF3 (Orc.t Orc.z) s:=by
 rw [zaty];exact ⟨(),⟨trivial,.refl _,rfl⟩,rfl,.tup (.cons zai2 (.refl _)),.rfl⟩
theorem zatD (s:ByteArray)(i:Int):zaF5 (Orc.t Orc.z) s i:=by
 rw [zatC];exact ⟨(),⟨trivial,.refl _,rfl⟩,rfl,.tup (.cons zai2 (.refl _)),.rfl⟩
theorem zatB (s:ByteArray)(ts ts':List AV)(n:Nd)(k a:Int):zaF4 (Orc.f (Orc.f (Orc.t Orc.z))) s ts ts' n k a:=by
 rw [zatA];exact ⟨(),⟨trivial,.refl _,rfl⟩,rfl,(),⟨trivial,.refl _,rfl⟩,rfl,rfl,.tup (.cons zai2 (.refl _)),.rfl⟩
theorem zatx (s:ByteArray)(ts:List AV)(a:Int)(x:ByteArray)(r:List AV)(n:Nd):zaF2 zaxa s ts a x r n:=by
 rw [zatw];exact ⟨(),⟨trivial,.refl _,rfl⟩,rfl,(),⟨trivial,.refl _,rfl⟩,rfl,rfl,rfl,rfl,.refl _,.rfl⟩
theorem zatv (s:ByteArray)(ts:List AV)(k a:Int)(x:ByteArray)(r:List AV)(n:Nd)(hk:k≠11):zaF1 zax s ts k a x r n:=by
 rw [zatu];exact ⟨(),⟨trivial,.refl _,rfl⟩,rfl,(),⟨trivial,.refl _,rfl⟩,rfl,bne_iff_ne.2 hk,rfl,.tup (.cons zai2 (.refl _)),.rfl⟩
attribute [local irreducible] runF in
theorem zawH {X:WX}(hX:X.Sound)(hp:X.px=X0T){os:Orc}{x:AV}(g:gPar X os s x):F zacg [s0 s] x:=by
 have hP:X.px.P=Tryz.prog:=by rw [hp];rfl
 have hg:X.px.gl=gl0:=by rw [hp];rfl
 have:=zade (X:=X.ask [zacg,zaiK,zaue,zafD]) (d:=12) (hX.ask _) (f:=zacg) (fn:=fn zacg) (code:=code zacg) (by show X.px.P.funcs[zacg]?=_;rw [hP];exact fnOk zacg (by kernel_rfl)) (show (fn zacg).body=some (code zacg) by kernel_rfl) (by kernel_rfl) g
 show FOk Tryz.prog gl0 zacg _ _ _
 rw [<-hg,<-hP];exact this
theorem zaDs {x:AV}(h:F fLex [s0 s] x):(XL s x).Sound:=zaGx.add (zabv (s:=zaDQ s x) fun _ _=>h)
theorem zauF {ts ts':List AV}{n e:AV}(h:F fLex [s0 s] (.tup [.lst false 3 ts,.lit .nilIface]))(h2:FOk Tryz.prog gl0 zacv [pArg] (zacA ts 0) (pOut ts' 0 n e)):(XLP s ts ts' n e).Sound:=(zaDs h).add (zabv (s:=spP ts ts' 0 n e) fun _ _=>h2)
theorem zawG {ts:List Tk}(hl:F fLex [s0 s] (zaAx (.ok ts))){r:R}(hp:FOk Tryz.prog gl0 zacv [pArg] (zacA (ts.map encT) 0) (pOut (r.ts.map encT) 0 (encP r.n) (encE r.e)))(hi:okT r.ts):F zacg [s0 s] (zaAw (zakc r)):=by
 obtain ⟨n,e,us⟩:=r
 cases e with
 | some ka=>obtain ⟨k,a⟩:=ka;exact zawH (zauF hl hp) rfl (zatB s _ _ n k a)
 | none =>
  cases us with
  | nil=>exact hi.elim
  | cons u us' =>
   obtain ⟨k,a,x⟩:=u
   by_cases hk:k=11
   · subst hk
     exact zawH (zauF hl hp) rfl (zatx s _ a x (us'.map encT) n)
   · have e:zakc ⟨n,none,⟨k,a,x⟩::us'⟩ = .bad 15 a:=if_neg hk
     rw [e]
     exact zawH (zauF hl hp) rfl (zatv s _ k a x (us'.map encT) n hk)
theorem zast (s:ByteArray):F zacg [s0 s] (zaAw (zagv s)):=by
 have hl:=zaCr s
 have ho:=@zajA s
 unfold zagv
 generalize lexS s=L at hl ho
 cases L with
 | long=>exact zawH (zaDs hl) rfl (zatz s)
 | bad i=>exact zawH (zaDs hl) rfl (zatD s i)
 | ok ts =>
  have hts:=ho rfl
  exact zawG hl (zaGA (5*ts.length+5) .expr 0 ts (Int.le_refl _) (by decide) hts (Nat.le_refl _)) (zaaS (5*ts.length+5) .expr 0 ts hts).1
end
end Go.Proofs.YtpofhijgccocpaaGreatDoor
end
section
namespace Go.TP
open Go.AS
mutual
def zae7:Nd->Prop
 | .mk _ _ _ t ks=>t.size<=600/\zaC5 ks
def zaC5:List Nd->Prop
 | []=>True
 | n::r=>zae7 n/\zaC5 r
end
theorem zaiI {k a n:Int}:zae7 (.mk k a n ByteArray.empty []):=⟨Nat.zero_le _,trivial⟩
theorem zac3:zae7 .zero:=zaiI
theorem zacu {k a n:Int}{t:ByteArray}{x:Nd}(ht:t.size<=600)(h:zae7 x):zae7 (.mk k a n t [x]):=⟨ht,h,trivial⟩
theorem zamx {k a n:Int}{x y:Nd}(h:zae7 x)(g:zae7 y):zae7 (.mk k a n ByteArray.empty [x,y]):=⟨Nat.zero_le _,h,g,trivial⟩
theorem e0:ByteArray.empty.size<=600:=Nat.zero_le _
theorem zaoF {ts:List Tk}(h:okT ts):(zaab ts).text.size<=600:=by
 cases ts with
 | nil=>exact h.elim
 | cons t r=>exact zaiq h
theorem zafe {part:List Tk->R}(hp:∀ ts,okT ts->Inv ts (part ts))(hq:∀ ts,okT ts->zae7 (part ts).n)(km:Int->Int):∀ (n:Nat) (r:R),okT r.ts->zae7 r.n->zae7 (zaaL part km n r).n
 | 0,r,_,h=>by rw [zaaL];exact h
 | n+1,r,h,hn=>by
  rw [zaaL]
  split
  · have h1:=zaaq h
    exact zafe hp hq km n ⟨.mk (km (zaab r.ts).kind) (zaab r.ts).at_ 0 ByteArray.empty [r.n,(part (zaal r.ts)).n],(part (zaal r.ts)).e,(part (zaal r.ts)).ts⟩ (hp _ h1.1).1 (zamx hn (hq _ h1.1))
  · exact hn
theorem zaca {d:Int}{t:Tk}{n0:Nd}{us:List Tk}{f:Int->List Tk->R}(h:zae7 n0)(hf:zae7 (f (d+1) us).n):zae7 (zaaT d t n0 us f).n:=by
 unfold zaaT
 split
 · exact h
 · exact hf
theorem zacC:∀ (f:Nat) (lv:Lv) (d:Int) (ts:List Tk),okT ts->zae7 (PF f lv d ts).n
 | 0,_,_,ts,h=>by rw [PF];exact zac3
 | f+1,.expr,d,ts,h=>by
  rw [PF]
  exact zafe (fun us hu=>zaaS f .term d us hu) (fun us hu=>zacC f .term d us hu) kmE f _ (zaaS f .term d ts h).1 (zacC f .term d ts h)
 | f+1,.term,d,ts,h=>by
  rw [PF]
  exact zafe (fun us hu=>zaaS f .part d us hu) (fun us hu=>zacC f .part d us hu) kmT f _ (zaaS f .part d ts h).1 (zacC f .part d ts h)
 | f+1,.part,d,ts,h=>by
  rw [PF]
  simp only
  split
  · exact zacC f .ranged d ts h
  · exact zaca zaiI (zacu e0 (zacC f .part (d+1) _ (zaaq h).1))
 | f+1,.ranged,d,ts,h=>by
  rw [PF]
  simp only
  have h1:=zaaq h
  split
  · exact zaca zaiI (zacu e0 (zacC f .atom (d+1) _ h1.1))
  · have h2:=zacC f .atom d ts h
    have i2:=zaaS f .atom d ts h
    have second:∀ (d:Int) (us:List Tk) (k a:Int) (n:Nd) (m:Bool),okT us->zae7 n->zae7 (zabL (PF f .atom d) k a n m us).n:=fun d us k a n m hu hn=>by
      unfold zabL
      split
      · exact zacu e0 hn
      · exact zamx hn (zacC f .atom d us hu)
    have h3:=zaaq i2.1
    split
    · exact h2
    · split
      · exact zaca (zacu e0 h2) (second _ _ _ _ _ _ h3.1 h2)
      · split
        · exact second _ _ _ _ _ _ h3.1 h2
        · exact h2
 | f+1,.atom,d,ts,h=>by
  rw [PF]
  simp only
  have hs:=zaoF h
  have h1:=zaaq h
  have h3:=zaaq h1.1
  split
  · refine zaca zac3 ?_
    have h2:=zacC f .expr (d+1) _ h1.1
    split
    · exact h2
    · exact h2
  · split
    · split
      · unfold zapg
        simp only
        split
        · exact zac3
        · refine zaca zac3 ?_
          split
          · exact ⟨hs,trivial⟩
          · have h2:=zacC f .expr (d+1) _ h3.1
            split
            · exact zacu hs h2
            · split
              · exact zacu hs h2
              · split
                · exact zacu hs h2
                · split
                  · exact zacu hs h2
                  · exact zacu hs h2
      · split
        · exact ⟨hs,trivial⟩
        · exact zac3
    · exact zac3
end Go.TP
end
section
namespace Go.Proofs.YtpofhijgccocpaaGreatDoor
abbrev zab5:Nat:=28
end Go.Proofs.YtpofhijgccocpaaGreatDoor
end
section
namespace Go.Proofs.YtpofhijgccocpaaGreatDoor
open Go.AS Go.TP
noncomputable section
abbrev ndV (k a m:Int)(t:ByteArray)(ks:List AV):AV := .agg [i0 k,i0 a,i0 m,s0 t,.lst false 5 ks]
def zajg:Sp := .pure ByteArray (fun _=>True) (fun w=>[s0 w]) (fun w=>i0 (zaaB w))
def zavu:Sp := .pure ByteArray (fun w=>w.size<=1000000) (fun w=>[s0 w]) (fun w=>b0 (zaav w))
noncomputable def XR0:WX:=(XB.add zamF (Sp.con [zajg])).add zaaf (Sp.con [zavu])
def zaGd (os:Orc)(k a m:Int)(t:ByteArray)(ks:List AV)(r:Int):Prop:=gF XR0 [zaBG] zaBG os [ndV k a m t ks] (i0 r)
def zaze (os:Orc)(k a m:Int)(t:ByteArray)(ks:List AV)(r:Bool):Prop:=gF XR0 [zao3] zao3 os [ndV k a m t ks] (b0 r)
structure NV where
 k:Int
 a:Int
 m:Int
 t:ByteArray
 ks:List AV
def zapN:Sp := .pure NV (fun _=>True) (fun v=>[ndV v.k v.a v.m v.t v.ks]) (fun v=>i0 (zabZ v.k v.t))
def zalo:Sp := .pure NV (fun v=>v.t.size<=1000000) (fun v=>[ndV v.k v.a v.m v.t v.ks]) (fun v=>b0 (zabh v.k v.m v.t))
noncomputable def XR1:WX:=(XR0.add zaBG (Sp.con [zapN])).add zao3 (Sp.con [zalo])
def zafL (P:Nd->Prop):Sp := .pure Nd (fun n=>P n) (fun n=>[encP n]) (fun n=>b0 (zaas n))
def gRi (X:WX)(os:Orc)(k a m:Int)(t:ByteArray)(ks:List AV)(r:Bool):Prop:=gF X [zadE,zaAm,zao6,zaAr] zadE os [ndV k a m t ks] (b0 r)
def gRiA (os:Orc)(k a m:Int)(t:ByteArray)(ks:List AV):Prop:=gRi XR1 os k a m t ks false
def gRiB (os:Orc)(k a m:Int)(t:ByteArray)(ks:List AV):Prop:=gRi XR1 os k a m t ks false
def gRiC (os:Orc)(k a m:Int)(t:ByteArray)(ks:List AV):Prop:=gRi XR1 os k a m t ks false
def gRi0 (os:Orc)(k a m:Int)(t:ByteArray):Prop:=gRi XR1 os k a m t [] true
def gRi1 (os:Orc)(P:Nd->Prop)(k a m:Int)(t:ByteArray)(x:Nd)(b:Bool):Prop:=gRi (XR1.add zadE (Sp.con [zafL P])) os k a m t [encP x] b
def gRi2 (os:Orc)(P:Nd->Prop)(k a m:Int)(t:ByteArray)(x y:Nd)(b:Bool):Prop:=gRi (XR1.add zadE (Sp.con [zafL P])) os k a m t [encP x,encP y] b
def zafM (P:Nd->Prop):Sp := .pure Nd (fun n=>P n) (fun n=>[encP n]) (fun n => .lst false 5 (encL (zaah n)))
def gNs (X:WX)(os:Orc)(k a m:Int)(t:ByteArray)(ks r:List AV):Prop:=runF (X.ask [zab5]) 12 zab5 (fn zab5) (code zab5) os 1 [] [ndV k a m t ks] .nil ⟨.lst false 5 r,.nil,[]⟩
def gNsN (os:Orc)(a m:Int)(t:ByteArray)(ks:List AV):Prop:=gNs XB os 1 a m t ks [ndV 1 a 0 t []]
def gNs0 (os:Orc)(k a m:Int)(t:ByteArray):Prop:=gNs XB os k a m t [] []
def gNs1 (os:Orc)(P:Nd->Prop)(k a m:Int)(t:ByteArray)(x:Nd):Prop:=gNs (XB.add zab5 (Sp.con [zafM P])) os k a m t [encP x] (encL (zaah x))
def gNs2 (os:Orc)(P:Nd->Prop)(k a m:Int)(t:ByteArray)(x y:Nd):Prop:=gNs (XB.add zab5 (Sp.con [zafM P])) os k a m t [encP x,encP y] (encL (zaah x)++encL (zaah y))
end
end Go.Proofs.YtpofhijgccocpaaGreatDoor
end
section
namespace Go.Proofs.YtpofhijgccocpaaGreatDoor
open Go Go.AS Go.TP
def zaxb:Orc:=Orc.s (Orc.t Orc.z) (Orc.s (Orc.t Orc.z) (Orc.s (Orc.t Orc.z) (Orc.s (Orc.t Orc.z) (Orc.s Orc.z (Orc.s (Orc.t Orc.z) (Orc.s (Orc.t Orc.z) (Orc.s Orc.z (Orc.s Orc.z (Orc.s Orc.z Orc.z)))))))))
theorem zatT (k a m:Int)(t:ByteArray)(ks:List AV)(r:Int):zaGd zaxb k a m t ks r=(((k==2)=true->Yt (Wk (i0 2) (i0 r)/\S0))/\((k==2)=false->((k==3)=true->Yt (Wk (i0 2) (i0 r)/\S0))/\((k==3)=false->((k==4)=true->Yt (Wk (i0 2) (i0 r)/\S0))/\((k==4)=false->((k==8)=true->Yt (Wk (i0 2) (i0 r)/\S0))/\((k==8)=false->((k==9)=true->Wk (i0 2) (i0 r)/\S0)/\((k==9)=false->((k==5)=true->Yt (Wk (i0 1) (i0 r)/\S0))/\((k==5)=false->((k==6)=true->Yt (Wk (i0 1) (i0 r)/\S0))/\((k==6)=false->((k==7)=true->Wk (i0 1) (i0 r)/\S0)/\((k==7)=false->((k==1)=true->Wk (i0 0) (i0 r)/\S0)/\((k==1)=false->((k==10)=true->∃ (i1:ByteArray),(True/\Wks [s0 t] [s0 i1]/\hpL []=hpL [])/\inR IntKind.i64 (zaaB i1-1)=true/\Wk (i0 (if (1:Int)<zaaB i1-1 then (1:Int) else zaaB i1-1)) (i0 r)/\S0)/\((k==10)=false->Wk (i0 (-1:Int)) (i0 r)/\S0))))))))))):=by kernel_rfl
def zaql:Orc:=Orc.s (Orc.s (Orc.t (Orc.t Orc.z)) (Orc.f (Orc.f Orc.z))) (Orc.s (Orc.s (HT (Orc.t (Orc.t (Orc.t Orc.z)))) (HF (Orc.s (Orc.t (Orc.t (Orc.f (Orc.f (Orc.s (Orc.t (Orc.t (Orc.f Orc.z))) (Orc.f (Orc.f (Orc.f Orc.z)))))))) (HF (Orc.f (Orc.f (Orc.f (Orc.f Orc.z)))))))) (Orc.s (Orc.t (Orc.t Orc.z)) (Orc.f (Orc.f Orc.z))))
theorem zaoP (k a m:Int)(t:ByteArray)(ks:List AV)(r:Bool):zaze zaql k a m t ks r=(let z1:=(ByteArray.toList t==ByteArray.toList ⟨⟨[]⟩⟩);((k==1)=true->∃ (i1:ByteArray),(ByteArray.size i1<=1000000/\Wks [s0 t] [s0 i1]/\hpL []=hpL [])/\(zaav i1=true->Yt (Yt (Wk (b0 (m==0)) (b0 r)/\S0)))/\(zaav i1=false->Nf (Nf (Wk (b0 false) (b0 r)/\S0))))/\((k==1)=false->((k==10)=true->((m==0)=true->Yt4 (Yt (Yt (Yt (Wk (b0 true) (b0 r)/\S0)))))/\((m==0)=false->Nf (Nf (∃ (i2:ByteArray),(True/\Wks [s0 t] [s0 i2]/\hpL []=hpL [])/\Nf (Nf (((zaaB i2==3)=true->Yt (Yt (Nf (Nf ((decide (m>0)=true->Yt (Yt (Nf (Wk (b0 (decide (m<=999999))) (b0 r)/\S0))))/\(decide (m>0)=false->Nf (Nf (Nf (Wk (b0 false) (b0 r)/\S0)))))))))/\((zaaB i2==3)=false->Nf4 (Nf4 (Wk (b0 false) (b0 r)/\S0)))))))))/\((k==10)=false->(z1=true->Yt (Yt (Wk (b0 (m==0)) (b0 r)/\S0)))/\(z1=false->Nf (Nf (Wk (b0 false) (b0 r)/\S0)))))):=by kernel_rfl
def zaER:Orc:=HT (HT (Orc.t Orc.z))
theorem zayQ (k a m:Int)(t:ByteArray)(ks:List AV):gRiA zaER k a m t ks=(∃ (i1:NV),(True/\Wks [AV.agg [i0 k,i0 a,i0 m,s0 t,L5 ks]] [AV.agg [i0 (NV.k i1),i0 (NV.a i1),i0 (NV.m i1),s0 (NV.t i1),L5 (NV.ks i1)]]/\hpL []=hpL [])/\decide (zabZ (NV.k i1) (NV.t i1)<0)=true/\Yt4 (Yt4 (Wk (b0 false) (b0 false)/\S0))):=by kernel_rfl
def zaEQ:Orc:=HF (Orc.f (Orc.t (Orc.t (Orc.t (Orc.t Orc.z)))))
theorem zayO (k a m:Int)(t:ByteArray)(ks:List AV):gRiB zaEQ k a m t ks=(∃ (i1:NV),(True/\Wks [AV.agg [i0 k,i0 a,i0 m,s0 t,L5 ks]] [AV.agg [i0 (NV.k i1),i0 (NV.a i1),i0 (NV.m i1),s0 (NV.t i1),L5 (NV.ks i1)]]/\hpL []=hpL [])/\decide (zabZ (NV.k i1) (NV.t i1)<0)=false/\Nf4 ((zabZ (NV.k i1) (NV.t i1) != (↑(List.length ks):Int))=true/\Yt (Yt (Yt (Wk (b0 false) (b0 false)/\S0))))):=by kernel_rfl
def zaEP:Orc:=HF (HF (Orc.t Orc.z))
theorem zayM (k a m:Int)(t:ByteArray)(ks:List AV):gRiC zaEP k a m t ks=(let z1:=[AV.agg [i0 k,i0 a,i0 m,s0 t,L5 ks]];∃ (i1:NV),(True/\Wks z1 [AV.agg [i0 (NV.k i1),i0 (NV.a i1),i0 (NV.m i1),s0 (NV.t i1),L5 (NV.ks i1)]]/\hpL []=hpL [])/\decide (zabZ (NV.k i1) (NV.t i1)<0)=false/\Nf4 ((zabZ (NV.k i1) (NV.t i1) != (↑(List.length ks):Int))=false/\Nf (∃ (i2:NV),(ByteArray.size (NV.t i2)<=1000000/\Wks z1 [AV.agg [i0 (NV.k i2),i0 (NV.a i2),i0 (NV.m i2),s0 (NV.t i2),L5 (NV.ks i2)]]/\hpL []=hpL [])/\Nf ((!zabh (NV.k i2) (NV.m i2) (NV.t i2))=true/\Wk (b0 false) (b0 false)/\S0)))):=by kernel_rfl
def zaEU:Orc:=HF (HF (Orc.f (Orc.f Orc.z)))
theorem zayW (k a m:Int)(t:ByteArray):gRi0 zaEU k a m t=(let z1:=[AV.agg [i0 k,i0 a,i0 m,s0 t,L5 []]];∃ (i1:NV),(True/\Wks z1 [AV.agg [i0 (NV.k i1),i0 (NV.a i1),i0 (NV.m i1),s0 (NV.t i1),L5 (NV.ks i1)]]/\hpL []=hpL [])/\decide (zabZ (NV.k i1) (NV.t i1)<0)=false/\Nf4 ((zabZ (NV.k i1) (NV.t i1) != 0)=false/\Nf (∃ (i2:NV),(ByteArray.size (NV.t i2)<=1000000/\Wks z1 [AV.agg [i0 (NV.k i2),i0 (NV.a i2),i0 (NV.m i2),s0 (NV.t i2),L5 (NV.ks i2)]]/\hpL []=hpL [])/\Nf ((!zabh (NV.k i2) (NV.m i2) (NV.t i2))=false/\Nf (Wk (b0 true) (b0 true)/\S0))))):=by kernel_rfl
def zaET:Orc:=HF (HF (Orc.f (Orc.t (Orc.s Orc.z (Orc.f Orc.z)))))
theorem zayU (P:Nd->Prop)(k a m:Int)(t:ByteArray)(x:Nd)(b:Bool):gRi1 zaET P k a m t x b=(let z1:=(↑(List.length [encP x]):Int);let z2:=[AV.agg [i0 k,i0 a,i0 m,s0 t,L5 [encP x]]];∃ (i1:NV),(True/\Wks z2 [AV.agg [i0 (NV.k i1),i0 (NV.a i1),i0 (NV.m i1),s0 (NV.t i1),L5 (NV.ks i1)]]/\hpL []=hpL [])/\decide (zabZ (NV.k i1) (NV.t i1)<0)=false/\Nf4 ((zabZ (NV.k i1) (NV.t i1) != z1)=false/\Nf (∃ (i2:NV),(ByteArray.size (NV.t i2)<=1000000/\Wks z2 [AV.agg [i0 (NV.k i2),i0 (NV.a i2),i0 (NV.m i2),s0 (NV.t i2),L5 (NV.ks i2)]]/\hpL []=hpL [])/\Nf ((!zabh (NV.k i2) (NV.m i2) (NV.t i2))=false/\decide ((0:Int)<z1)=true/\∃ (i3:Nd),(P i3/\Wks [encP x] [encP i3]/\hpL []=hpL [])/\((!zaas i3)=true->Wk (b0 false) (b0 b)/\S0)/\((!zaas i3)=false->Yt (decide ((1:Int)<z1)=false/\Wk (b0 true) (b0 b)/\S0)))))):=by kernel_rfl
def zaES:Orc:=HF (HF (Orc.f (Orc.t (Orc.s Orc.z (Orc.t (Orc.s Orc.z (Orc.f Orc.z)))))))
theorem zayS (P:Nd->Prop)(k a m:Int)(t:ByteArray)(x y:Nd)(b:Bool):gRi2 zaES P k a m t x y b=(let z1:=(↑(List.length [encP x,encP y]):Int);let z2:=[AV.agg [i0 k,i0 a,i0 m,s0 t,L5 [encP x,encP y]]];∃ (i1:NV),(True/\Wks z2 [AV.agg [i0 (NV.k i1),i0 (NV.a i1),i0 (NV.m i1),s0 (NV.t i1),L5 (NV.ks i1)]]/\hpL []=hpL [])/\decide (zabZ (NV.k i1) (NV.t i1)<0)=false/\Nf4 ((zabZ (NV.k i1) (NV.t i1) != z1)=false/\Nf (∃ (i2:NV),(ByteArray.size (NV.t i2)<=1000000/\Wks z2 [AV.agg [i0 (NV.k i2),i0 (NV.a i2),i0 (NV.m i2),s0 (NV.t i2),L5 (NV.ks i2)]]/\hpL []=hpL [])/\Nf ((!zabh (NV.k i2) (NV.m i2) (NV.t i2))=false/\decide ((0:Int)<z1)=true/\∃ (i3:Nd),(P i3/\Wks [encP x] [encP i3]/\hpL []=hpL [])/\((!zaas i3)=true->Wk (b0 false) (b0 b)/\S0)/\((!zaas i3)=false->Yt (decide ((1:Int)<z1)=true/\∃ (i4:Nd),(P i4/\Wks [encP y] [encP i4]/\hpL []=hpL [])/\((!zaas i4)=true->Wk (b0 false) (b0 b)/\S0)/\((!zaas i4)=false->Yt (decide ((2:Int)<z1)=false/\Wk (b0 true) (b0 b)/\S0)))))))):=by kernel_rfl
theorem zay6 (a m:Int)(t:ByteArray)(ks:List AV):gNsN (Orc.t Orc.z) a m t ks=(Yt (Wk (AV.lst true 5 [AV.agg [i0 1,i0 a,i0 0,s0 t,AV.lit (Value.slice none 0 0)]]) (L5 [AV.agg [i0 1,i0 a,i0 0,s0 t,L5 []]])/\S0)):=by kernel_rfl
theorem zazb (k a m:Int)(t:ByteArray):gNs0 (Orc.f (Orc.f Orc.z)) k a m t=((k==1)=false/\Nf (Wk (AV.lit (Value.slice none 0 0)) (L5 [])/\S0)):=by kernel_rfl
theorem zaz (P:Nd->Prop)(k a m:Int)(t:ByteArray)(x:Nd):gNs1 (Orc.f (Orc.t (Orc.f Orc.z))) P k a m t x=((k==1)=false/\decide ((0:Int)<(↑(List.length [encP x]):Int))=true/\∃ (i1:Nd),(P i1/\Wks [encP x] [encP i1]/\hpL []=hpL [])/\decide (List.length (encL (zaah i1))*64<=140737488355328/\List.length (encL (zaah i1))<=1152921504606846976)=true/\Yt (decide ((1:Int)<(↑(List.length [encP x]):Int))=false/\0+List.length (encL (zaah i1))<=List.length (encL (zaah i1))/\Wk (L5 (List.take (List.length (encL (zaah i1))) (List.drop 0 (encL (zaah i1))))) (L5 (encL (zaah x)))/\S0)):=by kernel_rfl
def zaEV:Orc:=Orc.f (Orc.t (Orc.t (Orc.f Orc.z)))
theorem zay8 (P:Nd->Prop)(k a m:Int)(t:ByteArray)(x y:Nd):gNs2 zaEV P k a m t x y=(let z1:=(↑(List.length [encP x,encP y]):Int);(k==1)=false/\decide ((0:Int)<z1)=true/\∃ (i1:Nd),(P i1/\Wks [encP x] [encP i1]/\hpL []=hpL [])/\decide (List.length (encL (zaah i1))*64<=140737488355328/\List.length (encL (zaah i1))<=1152921504606846976)=true/\Yt (decide ((1:Int)<z1)=true/\∃ (i2:Nd),(P i2/\Wks [encP y] [encP i2]/\hpL []=hpL [])/\(true&&(Nat.beq 5 5&&Nat.ble (0+List.length (encL (zaah i1))) (List.length (encL (zaah i1))))&&(Nat.beq 5 5&&decide (List.length (List.take (List.length (encL (zaah i1))) (List.drop 0 (encL (zaah i1)))++encL (zaah i2))*64<=140737488355328/\List.length (List.take (List.length (encL (zaah i1))) (List.drop 0 (encL (zaah i1)))++encL (zaah i2))<=1152921504606846976)))=true/\Yt (decide ((2:Int)<z1)=false/\0+List.length (List.take (List.length (encL (zaah i1))) (List.drop 0 (encL (zaah i1)))++encL (zaah i2))<=List.length (List.take (List.length (encL (zaah i1))) (List.drop 0 (encL (zaah i1)))++encL (zaah i2))/\Wk (L5 (List.take (List.length (List.take (List.length (encL (zaah i1))) (List.drop 0 (encL (zaah i1)))++encL (zaah i2))) (List.drop 0 (List.take (List.length (encL (zaah i1))) (List.drop 0 (encL (zaah i1)))++encL (zaah i2))))) (L5 (encL (zaah x)++encL (zaah y)))/\S0))):=by kernel_rfl
end Go.Proofs.YtpofhijgccocpaaGreatDoor
end
section
namespace Go.TP
open Go.AS
mutual
def zaHc:Nd->Nat
 | .mk _ _ _ _ ks=>zaFy ks
def zaFy:List Nd->Nat
 | []=>1
 | n::r=>zaHc n+match r with
  | []=>0
  | _::_=>zaFy r
end
theorem zabU {ts:List Tk}(h:okT ts)(hk:(zaab ts).kind≠11):(zaal ts).length+1=ts.length:=by
 cases ts with
 | nil=>exact h.elim
 | cons t r=>have hk:t.kind≠11:=hk;rw [zaaW hk];rfl
end Go.TP
end
section
namespace Go.Proofs.YtpofhijgccocpaaGreatDoor
open Go.AS Go.TP
noncomputable section
theorem zaAj (t:ByteArray):0<=zaaB t/\zaaB t<=3:=by grind [zaaB]
theorem zauC:XR0.Sound:=(zaaR.add (zabv (s:=zajg) fun w _=>zajG w)).add (zabv (s:=zavu) fun w h=>zafY w h)
variable {a b:Int}
theorem eqT (h:(a==b)=true):a=b:=eq_of_beq h
theorem eqF (h:(a==b)=false):a≠b:=beq_eq_false_iff_ne.1 h
theorem zatU (k a m:Int)(t:ByteArray)(ks:List AV):zaGd zaxb k a m t ks (zabZ k t):=by
 rw [zatT]
 refine ⟨fun h => ?_,fun h1=>⟨fun h => ?_,fun h2=>⟨fun h => ?_,fun h3=>⟨fun h => ?_,fun h4=>⟨fun h => ?_,fun h5=>⟨fun h => ?_,fun h6=>⟨fun h => ?_,fun h7=>⟨fun h => ?_,fun h8=>⟨fun h => ?_,fun h9=>⟨fun h => ?_,fun h10 => ?_⟩⟩⟩⟩⟩⟩⟩⟩⟩⟩
 · obtain rfl:=eqT h;exact ⟨rfl,.refl _,.rfl⟩
 · obtain rfl:=eqT h;exact ⟨rfl,.refl _,.rfl⟩
 · obtain rfl:=eqT h;exact ⟨rfl,.refl _,.rfl⟩
 · obtain rfl:=eqT h;exact ⟨rfl,.refl _,.rfl⟩
 · obtain rfl:=eqT h;exact ⟨.refl _,.rfl⟩
 · obtain rfl:=eqT h;exact ⟨rfl,.refl _,.rfl⟩
 · obtain rfl:=eqT h;exact ⟨rfl,.refl _,.rfl⟩
 · obtain rfl:=eqT h;exact ⟨.refl _,.rfl⟩
 · obtain rfl:=eqT h;exact ⟨.refl _,.rfl⟩
 · obtain rfl:=eqT h
   have hf:=zaAj t
   refine ⟨t,⟨trivial,.refl _,rfl⟩,zaag (by omega) (by omega),.of_eq ?_,.rfl⟩
   have e:zabZ 10 t=if zaaB t-1<1 then zaaB t-1 else 1:=rfl
   rw [e]
   by_cases h:zaaB t-1<1
   · rw [if_pos h,if_neg (by omega)]
   · rw [if_neg h]
     by_cases g:1<zaaB t-1
     · rw [if_pos g]
     · rw [if_neg g,show zaaB t-1=1 by omega]
 · have:=eqF h1;have:=eqF h2;have:=eqF h3;have:=eqF h4;have:=eqF h5;have:=eqF h6;have:=eqF h7;have:=eqF h8;have:=eqF h9;have:=eqF h10
   have e:zabZ k t = -1:=by unfold zabZ;rw [if_neg (by omega),if_neg (by omega),if_neg (by omega),if_neg (by omega)]
   rw [e];exact ⟨.refl _,.rfl⟩
theorem zaxw (k a m:Int)(t:ByteArray)(ks:List AV):F zaBG [ndV k a m t ks] (i0 (zabZ k t)):=F_ok zauC rfl (by kernel_rfl) (by kernel_rfl) (by kernel_rfl) (zatU k a m t ks)
theorem notT {b:Bool}(h:(!b)=true):b=false:=by cases b<;>first|rfl|cases h
theorem notF {b:Bool}(h:(!b)=false):b=true:=by cases b<;>first|rfl|cases h
theorem beqD (a b:Int):(a==b)=decide (a=b):=by grind
theorem zaoQ (k a m:Int)(t:ByteArray)(ks:List AV)(ht:t.size<=1000000):zaze zaql k a m t ks (zabh k m t):=by
 rw [zaoP]
 have e0:(ByteArray.toList t==ByteArray.toList { data:={ toList:=[] } })=decide (t=ByteArray.empty):=zaba t ⟨⟨[]⟩⟩
 refine ⟨fun h => ?_,fun h1=>⟨fun h => ?_,fun h2=>⟨fun h => ?_,fun h => ?_⟩⟩⟩
 · obtain rfl:=eqT h
   have e:zabh 1 m t=(zaav t&&decide (m=0)):=rfl
   rw [e]
   refine ⟨t,⟨ht,.refl _,rfl⟩,fun h=>⟨rfl,rfl,?_,.rfl⟩,fun h=>⟨rfl,rfl,?_,.rfl⟩⟩
   · rw [h,beqD];exact .refl _
   · rw [h];exact .refl _
 · obtain rfl:=eqT h
   have e:zabh 10 m t=(decide (m=0)||(decide (zaaB t=3)&&(decide (0<m)&&decide (m<=999999)))):=rfl
   rw [e]
   refine ⟨fun h=>⟨rfl,rfl,rfl,rfl,rfl,rfl,rfl,?_,.rfl⟩,fun h0=>⟨rfl,rfl,t,⟨trivial,.refl _,rfl⟩,rfl,rfl,fun h=>⟨rfl,rfl,rfl,rfl,fun g=>⟨rfl,rfl,rfl,?_,.rfl⟩,fun g=>⟨rfl,rfl,rfl,?_,.rfl⟩⟩,fun h=>⟨rfl,rfl,rfl,rfl,rfl,rfl,rfl,rfl,?_,.rfl⟩⟩⟩
   · rw [decide_eq_true (eqT h)];exact .refl _
   · rw [decide_eq_false (eqF h0),decide_eq_true (eqT h),decide_eq_true (of_decide_eq_true g:0<m)];exact .refl _
   · rw [decide_eq_false (eqF h0),decide_eq_true (eqT h),decide_eq_false (of_decide_eq_false g:¬0<m)];exact .refl _
   · rw [decide_eq_false (eqF h0),decide_eq_false (eqF h)];exact .refl _
 · rw [e0] at h
   have e:zabh k m t=(decide (t=ByteArray.empty)&&decide (m=0)):=by unfold zabh;rw [if_neg (eqF h1),if_neg (eqF h2)]
   rw [e,h,beqD];exact ⟨rfl,rfl,.refl _,.rfl⟩
 · rw [e0] at h
   have e:zabh k m t=(decide (t=ByteArray.empty)&&decide (m=0)):=by unfold zabh;rw [if_neg (eqF h1),if_neg (eqF h2)]
   rw [e,h];exact ⟨rfl,rfl,.refl _,.rfl⟩
theorem zasC (k a m:Int)(t:ByteArray)(ks:List AV)(ht:t.size<=1000000):F zao3 [ndV k a m t ks] (b0 (zabh k m t)):=F_ok zauC rfl (by kernel_rfl) (by kernel_rfl) (by kernel_rfl) (zaoQ k a m t ks ht)
theorem zakw:XR1.Sound:=(zauC.add (zabv (s:=zapN) fun v _=>zaxw v.k v.a v.m v.t v.ks)).add (zabv (s:=zalo) fun v h=>zasC v.k v.a v.m v.t v.ks h)
abbrev FRight (n:Nd):Prop:=F zadE [encP n] (b0 (zaas n))
theorem riFn {X:WX}(hX:X.Sound)(hp:X.px=X0){os:Orc}{k m:Int}{t:ByteArray}{ks:List AV}{r:Bool}(g:gRi X os k a m t ks r):F zadE [ndV k a m t ks] (b0 r):=F_ok hX hp (by kernel_rfl) (by kernel_rfl) (by kernel_rfl) g
theorem zabk:∀ l:List Nd,(encL l).length=l.length
 | []=>rfl
 | _::r=>by rw [encL,List.length_cons,List.length_cons,zabk r]
theorem zayR (k a m:Int)(t:ByteArray)(ks:List AV)(h:zabZ k t<0):gRiA zaER k a m t ks:=by
 rw [zayQ];exact ⟨⟨k,a,m,t,ks⟩,⟨trivial,.refl _,rfl⟩,decide_eq_true h,by exact zad8⟩
theorem zayP (k a m:Int)(t:ByteArray)(ks:List AV)(h:¬zabZ k t<0)(h2:zabZ k t≠ks.length):gRiB zaEQ k a m t ks:=by
 rw [zayO];exact ⟨⟨k,a,m,t,ks⟩,⟨trivial,.refl _,rfl⟩,decide_eq_false h,rfl,rfl,rfl,rfl,bne_iff_ne.2 h2,rfl,rfl,rfl,.refl _,.rfl⟩
theorem bneF (h:a=b):(a != b)=false:=by rw [h];exact bne_self_eq_false b
theorem zayN (k a m:Int)(t:ByteArray)(ks:List AV)(ht:t.size<=1000000)(h:¬zabZ k t<0)(h2:zabZ k t=ks.length)(h3:zabh k m t=false):gRiC zaEP k a m t ks:=by
 rw [zayM];exact ⟨⟨k,a,m,t,ks⟩,⟨trivial,.refl _,rfl⟩,decide_eq_false h,rfl,rfl,rfl,rfl,bneF h2,rfl,⟨k,a,m,t,ks⟩,⟨ht,.refl _,rfl⟩,rfl,by rw [h3];rfl,.refl _,.rfl⟩
theorem zayX (k a m:Int)(t:ByteArray)(ht:t.size<=1000000)(h2:zabZ k t=0)(h3:zabh k m t=true):gRi0 zaEU k a m t:=by
 rw [zayW];exact ⟨⟨k,a,m,t,[]⟩,⟨trivial,.refl _,rfl⟩,decide_eq_false (by show ¬zabZ k t<0;omega),rfl,rfl,rfl,rfl,bneF h2,rfl,⟨k,a,m,t,[]⟩,⟨ht,.refl _,rfl⟩,rfl,by rw [h3];rfl,rfl,.refl _,.rfl⟩
theorem zayV (k a m:Int)(t:ByteArray)(x:Nd)(ht:t.size<=1000000)(h2:zabZ k t=1)(h3:zabh k m t=true):gRi1 zaET (fun n=>n=x) k a m t x (zaas x&&true):=by
 rw [zayU]
 refine ⟨⟨k,a,m,t,[encP x]⟩,⟨trivial,.refl _,rfl⟩,decide_eq_false (by show ¬zabZ k t<0;omega),rfl,rfl,rfl,rfl,bneF h2,rfl,⟨k,a,m,t,[encP x]⟩,⟨ht,.refl _,rfl⟩,rfl,by rw [h3];rfl,decide_eq_true (by show (0:Int)<1;decide),x,⟨rfl,.refl _,rfl⟩,fun h=>⟨?_,.rfl⟩,fun h=>⟨rfl,decide_eq_false (by show ¬(1:Int)<1;decide),?_,.rfl⟩⟩
 · rw [notT h];exact .refl _
 · rw [notF h];exact .refl _
theorem zayT (k a m:Int)(t:ByteArray)(x y:Nd)(ht:t.size<=1000000)(h2:zabZ k t=2)(h3:zabh k m t=true):gRi2 zaES (fun n=>n=x∨n=y) k a m t x y (zaas x&&(zaas y&&true)):=by
 rw [zayS]
 refine ⟨⟨k,a,m,t,[encP x,encP y]⟩,⟨trivial,.refl _,rfl⟩,decide_eq_false (by show ¬zabZ k t<0;omega),rfl,rfl,rfl,rfl,bneF h2,rfl,⟨k,a,m,t,[encP x,encP y]⟩,⟨ht,.refl _,rfl⟩,rfl,by rw [h3];rfl,decide_eq_true (by show (0:Int)<2;decide),x,⟨.inl rfl,.refl _,rfl⟩,fun h=>⟨?_,.rfl⟩,fun h=>⟨rfl,decide_eq_true (by show (1:Int)<2;decide),y,⟨.inr rfl,.refl _,rfl⟩,fun g=>⟨?_,.rfl⟩,fun g=>⟨rfl,decide_eq_false (by show ¬(2:Int)<2;decide),?_,.rfl⟩⟩⟩
 · rw [notT h];exact .refl _
 · rw [notF h,notT g];exact .refl _
 · rw [notF h,notF g];exact .refl _
theorem zaqD (k:Int)(t:ByteArray):zabZ k t<=2:=by grind [zabZ]
theorem zagt {k m:Int}{t:ByteArray}{ks:List Nd}(h:zadt k m t ks.length=false):zaas (.mk k a m t ks)=false:=by rw [zaas,h];rfl
theorem zanW (k a m:Int)(t:ByteArray)(ks:List Nd)(ht:t.size<=600)(ih:∀ x∈ks,FRight x):FRight (.mk k a m t ks):=by
 show F zadE [ndV k a m t (encL ks)] _
 by_cases h:zabZ k t<0
 · have e:zaas (.mk k a m t ks)=false:=zagt (by unfold zadt;rw [decide_eq_false (by omega)];rfl)
   rw [e];exact riFn zakw rfl (zayR k a m t _ h)
 by_cases h2:zabZ k t=ks.length
 · cases h3:zabh k m t with
   | false =>
     have e:zaas (.mk k a m t ks)=false:=zagt (by unfold zadt;rw [h3,Bool.and_false,Bool.and_false])
     rw [e];exact riFn zakw rfl (zayN k a m t _ (by omega) h (by rw [zabk];exact h2) h3)
   | true =>
     have e:zaas (.mk k a m t ks)=zaj7 ks:=by
       rw [zaas];unfold zadt;rw [h3,decide_eq_true (by omega),decide_eq_true h2];rfl
     rw [e]
     have hl:=zaqD k t
     match ks,ih with
     | [],_=>exact riFn zakw rfl (zayX k a m t (by omega) h2 h3)
     | [x],ih =>
       rw [zae]
       exact riFn (X:=XR1.add zadE (Sp.con [zafL fun n=>n=x])) (zakw.add (zabv (s:=zafL fun n=>n=x) fun n (hn:n=x)=>by rw [hn];exact ih x (List.mem_cons_self ..))) rfl (zayV k a m t x (by omega) h2 h3)
     | [x,y],ih =>
       rw [zagO]
       exact riFn (X:=XR1.add zadE (Sp.con [zafL fun n=>n=x∨n=y])) (zakw.add (zabv (s:=zafL fun n=>n=x∨n=y) fun n (hn:n=x∨n=y)=>ih n (by rcases hn with hn|hn<;>simp [hn]))) rfl (zayT k a m t x y (by omega) h2 h3)
     | x::y::z::r,_=>rw [List.length_cons,List.length_cons,List.length_cons] at h2;omega
 · have e:zaas (.mk k a m t ks)=false:=zagt (by unfold zadt;rw [decide_eq_false h2,Bool.false_and,Bool.and_false])
   rw [e];exact riFn zakw rfl (zayP k a m t _ h (by rw [zabk];exact h2))
theorem zalt (n:Nd):zae7 n->FRight n:=by
 refine Nd.rec (motive_1:=fun n=>zae7 n->FRight n) (motive_2:=fun l=>zaC5 l->∀ x∈l,FRight x) ?_ ?_ ?_ n
 · intro k a m t ks ih h;exact zanW k a m t ks h.1 (ih h.2)
 · intro _ x hx;cases hx
 · intro x l i1 i2 h y hy
   rcases List.mem_cons.1 hy with rfl|hy
   · exact i1 h.1
   · exact i2 h.2 y hy
variable {a:Int}
theorem zajj {k m:Int}{t:ByteArray}{ks:List Nd}(h:zaas (.mk k a m t ks)=true):ks.length<=2:=by
 have:=(zadz h).1
 have:=zaqD k t
 omega
abbrev FNames (n:Nd):Prop:=F zab5 [encP n] (.lst false 5 (encL (zaah n)))
attribute [local irreducible] runF in
theorem nsFn {X:WX}(hX:X.Sound)(hp:X.px=X0){os:Orc}{k m:Int}{t:ByteArray}{ks r:List AV}(g:gNs X os k a m t ks r):F zab5 [ndV k a m t ks] (.lst false 5 r):=by
 have hP:X.px.P=Tryz.prog:=by rw [hp];rfl
 have hg:X.px.gl=gl0:=by rw [hp];rfl
 have:=zade (X:=X.ask [zab5]) (d:=12) (hX.ask _) (f:=zab5) (fn:=fn zab5) (code:=code zab5) (by show X.px.P.funcs[zab5]?=_;rw [hP];exact fnOk zab5 (by kernel_rfl)) (show (fn zab5).body=some (code zab5) by kernel_rfl) (by kernel_rfl) g
 show FOk Tryz.prog gl0 zab5 _ _ _
 rw [<-hg,<-hP];exact this
theorem zaf6:∀ a b:List Nd,encL (a++b)=encL a++encL b
 | [],_=>rfl
 | x::r,b=>by show encN x::encL (r++b)=encN x::(encL r++encL b);rw [zaf6 r b]
theorem zay7 (a m:Int)(t:ByteArray)(ks:List AV):gNsN (Orc.t Orc.z) a m t ks:=by
 rw [zay6];exact ⟨rfl,.trans (.lsts (.cons zav .nil)) .lst,.rfl⟩
theorem zazc (k a m:Int)(t:ByteArray)(h:k≠1):gNs0 (Orc.f (Orc.f Orc.z)) k a m t:=by
 rw [zazb];exact ⟨beq_eq_false_iff_ne.2 h,rfl,.nilS,.rfl⟩
theorem zaza (k a m:Int)(t:ByteArray)(x:Nd)(h:k≠1)(hx:(zaah x).length<=1000000):gNs1 (Orc.f (Orc.t (Orc.f Orc.z))) (fun n=>n=x) k a m t x:=by
 rw [zaz]
 have hl:(encL (zaah x)).length<=1000000:=by rw [zabk];exact hx
 refine ⟨beq_eq_false_iff_ne.2 h,decide_eq_true (by show (0:Int)<1;decide),x,⟨rfl,.refl _,rfl⟩,decide_eq_true ⟨by omega,by omega⟩,rfl,decide_eq_false (by show ¬(1:Int)<1;decide),by omega,.of_eq (by rw [List.drop_zero,List.take_length]),.rfl⟩
theorem zay9 (k a m:Int)(t:ByteArray)(x y:Nd)(h:k≠1)(hx:(zaah x).length+(zaah y).length<=1000000):gNs2 zaEV (fun n=>n=x∨n=y) k a m t x y:=by
 rw [zay8]
 have hl:(encL (zaah x)).length+(encL (zaah y)).length<=1000000:=by rw [zabk,zabk];exact hx
 refine ⟨beq_eq_false_iff_ne.2 h,decide_eq_true (by show (0:Int)<2;decide),x,⟨.inl rfl,.refl _,rfl⟩,decide_eq_true ⟨by omega,by omega⟩,rfl,decide_eq_true (by show (1:Int)<2;decide),y,⟨.inr rfl,.refl _,rfl⟩,?_,rfl,decide_eq_false (by show ¬(2:Int)<2;decide),?_,?_,.rfl⟩
 · rw [List.drop_zero,List.take_length,List.length_append,Nat.zero_add,Nat.ble_eq_true_of_le (Nat.le_refl _),decide_eq_true ⟨by omega,by omega⟩];rfl
 · rw [List.drop_zero,List.take_length];omega
 · refine .of_eq ?_;rw [List.drop_zero,List.take_length,List.drop_zero,List.take_length]
theorem zaor (k a m:Int)(t:ByteArray)(ks:List Nd)(hr:zaas (.mk k a m t ks)=true)(hL:(zaah (.mk k a m t ks)).length<=1000000)(ih:∀ x∈ks,zaas x=true->(zaah x).length<=1000000->FNames x):FNames (.mk k a m t ks):=by
 show F zab5 [ndV k a m t (encL ks)] _
 by_cases hk:k=1
 · subst hk
   have e:zaah (.mk 1 a m t ks)=[.mk 1 a 0 t []]:=by rw [zaah,if_pos rfl]
   rw [e];exact nsFn zaaR rfl (zay7 a m t _)
 · have e:zaah (.mk k a m t ks)=zab4 ks:=by rw [zaah,if_neg hk]
   rw [e] at hL ⊢
   have h2:=zajj hr
   have r1:=(zadz hr).2.2
   match ks,h2,ih,r1,hL with
   | [],_,_,_,_=>exact nsFn zaaR rfl (zazc k a m t hk)
   | [x],_,ih,r1,hL =>
     have e2:zab4 [x]=zaah x:=by rw [zab4,zab4,List.append_nil]
     rw [e2] at hL
     rw [e2,zae]
     exact nsFn (X:=XB.add zab5 (Sp.con [zafM fun n=>n=x])) (zaaR.add (zabv (s:=zafM fun n=>n=x) fun n (hn:n=x)=>by rw [hn];exact ih x (by simp) (r1 x (by simp)) hL)) rfl (zaza k a m t x hk (by omega))
   | [x,y],_,ih,r1,hL =>
     have e2:zab4 [x,y]=zaah x++zaah y:=by rw [zab4,zab4,zab4,List.append_nil]
     rw [e2,List.length_append] at hL
     rw [e2,zagO,zaf6]
     exact nsFn (X:=XB.add zab5 (Sp.con [zafM fun n=>n=x∨n=y])) (zaaR.add (zabv (s:=zafM fun n=>n=x∨n=y) fun n (hn:n=x∨n=y)=>by
       rcases hn with hn|hn
       · rw [hn];exact ih x (by simp) (r1 x (by simp)) (by omega)
       · rw [hn];exact ih y (by simp) (r1 y (by simp)) (by omega))) rfl (zay9 k a m t x y hk (by omega))
   | x::y::z::r,h2,_,_,_=>simp only [List.length_cons] at h2;omega
theorem zasB (n:Nd):zaas n=true->(zaah n).length<=1000000->FNames n:=by
 refine Nd.rec (motive_1:=fun n=>zaas n=true->(zaah n).length<=1000000->FNames n) (motive_2:=fun l=>∀ x∈l,zaas x=true->(zaah x).length<=1000000->FNames x) ?_ ?_ ?_ n
 · intro k a m t ks ih hr hL;exact zaor k a m t ks hr hL ih
 · intro x hx;cases hx
 · intro x l i1 i2 y hy
   rcases List.mem_cons.1 hy with rfl|hy
   · exact i1
   · exact i2 y hy
abbrev zaa4:Nat:=24
def zadO (ns:List AV):AV := .agg [.lst false 5 ns]
abbrev nV (k a m:Int)(t:ByteArray)(vs:List AV):AV := .agg [i0 k,i0 a,i0 m,s0 t,.lst false 5 vs]
def XSN (ns:List AV)(ks:List (AV × Int)):WX:=(XB.add zaa4 (Sp.con (ks.map fun q=>⟨Unit,fun _=>True,fun _=>[q.1,zadO ns,i0 q.2],fun _ => .nil,fun _=>⟨b0 true,.nil,[]⟩⟩)))
def gSN (X:WX)(os:Orc)(n:AV)(ns:List AV)(p:Int):Prop:=runF ((X.ask [zaa4]).askAt zaa4 [12,13,65,66]) 12 zaa4 (fn zaa4) (code zaa4) os 0 [] [n,zadO ns,i0 p] .nil ⟨b0 true,.nil,[]⟩
def gSN0 (os:Orc)(ns:List AV)(p k a m:Int)(t:ByteArray):Prop:=gSN XB os (nV k a m t []) ns p
def gSN1 (os:Orc)(ns:List AV)(p k a m:Int)(t:ByteArray)(k1 a1 m1:Int)(t1:ByteArray)(v1:List AV)(b:Int):Prop:=gSN (XSN ns [(nV k1 a1 m1 t1 v1,b)]) os (nV k a m t [nV k1 a1 m1 t1 v1]) ns p
def gSN2 (os:Orc)(ns:List AV)(p k a m:Int)(t:ByteArray)(k1 a1 m1:Int)(t1:ByteArray)(v1:List AV)(k2 a2 m2:Int)(t2:ByteArray)(v2:List AV)(b c:Int):Prop:=gSN (XSN ns [(nV k1 a1 m1 t1 v1,b),(nV k2 a2 m2 t2 v2,c)]) os (nV k a m t [nV k1 a1 m1 t1 v1,nV k2 a2 m2 t2 v2]) ns p
end
end Go.Proofs.YtpofhijgccocpaaGreatDoor
end
section
namespace Go.Proofs.YtpofhijgccocpaaGreatDoor
open Go Go.AS Go.TP
noncomputable abbrev zasp (xs:List AV) (ts:List AV) (k:Int) (d:Int) (bad:Int) (pl:Int):=[eR 1048577 [0,0] 5 xs,eF 1048578 [1,0] 6 [AV.agg [L3 ts,i0 k,i0 d,AV.slc 1048577 [0,0] 0 (List.length xs),i0 bad,i0 pl]]]
theorem zaBT (ts:List AV)(k d:Int)(xs:List AV)(pl c:Int)(b:Bool):xIs (Orc.t (Orc.t (Orc.t (Orc.t (Orc.t (Orc.t (Orc.t (Orc.t (Orc.t (Orc.t (Orc.t (Orc.t (Orc.t Orc.z))))))))))))) ts k d xs pl c b=(let z1:=(hpL [eR 1048577 [0,0] 5 xs,eF 1048578 [1,0] 6 [AV.agg [L3 ts,i0 k,i0 d,AV.slc 1048577 [0,0] 0 (List.length xs),i0 0,i0 pl]]]);Yt4 (Yt4 (Yt ((decide ((0:Int)<=k/\k<(↑(List.length ts):Int))&&(true&&(zaaF (Cx.B (cxV XI 14 fXIs)) shN 124 (List.getD ts (Int.toNat k) uu)&&(true||false))))=true/\Yt4 (Wk (b0 (intA (nthA 0 (List.getD ts (Int.toNat k) uu))==c)) (b0 b)/\SameH z1 z1))))):=by kernel_rfl
theorem zau3 (ts:List AV)(k d:Int)(xs:List AV)(bad pl c:Int):xIsB (Orc.f (Orc.f (Orc.f (Orc.f (Orc.f (Orc.f (Orc.f (Orc.f (Orc.f (Orc.f (Orc.f (Orc.f (Orc.f Orc.z))))))))))))) ts k d xs bad pl c=((bad==0)=false/\Nf4 (Nf4 (Nf4 (Wk (b0 false) (b0 false)/\SameH (hpL (zasp xs ts k d bad pl)) (hpL (zasp xs ts k d bad pl)))))):=by kernel_rfl
theorem zarg (ts:List AV)(k d:Int)(xs:List AV)(pl e a:Int):zaDD (Orc.t Orc.z) ts k d xs pl e a=(let z1:=AV.slc 1048577 [0,0] 0 (List.length xs);Yt ((decide ((0:Int)<=k/\k<(↑(List.length ts):Int))&&(true&&(zaaF (Cx.B (cxV XFl 14 zabG)) shN 124 (List.getD ts (Int.toNat k) uu)&&(true||false))))=true/\Wk (i0 0) (i0 0)/\SameH (hpL [eR 1048577 [0,0] 5 xs,eF 1048578 [1,0] 6 [AV.agg [L3 ts,i0 k,i0 d,z1,i0 e,i0 (intA (nthA 1 (List.getD ts (Int.toNat k) uu)))]]]) (hpL [eR 1048577 [0,0] 5 xs,eF 1048578 [1,0] 6 [AV.agg [L3 ts,i0 k,i0 d,z1,i0 e,i0 a]]]))):=by kernel_rfl
theorem zanz (ts:List AV)(k d:Int)(xs:List AV)(bad pl e:Int):zau4 (Orc.f Orc.z) ts k d xs bad pl e=((bad==0)=false/\Wk (i0 0) (i0 0)/\SameH (hpL (zasp xs ts k d bad pl)) (hpL (zasp xs ts k d bad pl))):=by kernel_rfl
theorem zau7 (ts:List AV)(k d:Int)(xs:List AV)(bad pl:Int)(kk a m:Int)(t:ByteArray)(ks:List AV):xAdd (Orc.z) ts k d xs bad pl kk a m t ks=(let z1:=(List.take (List.length xs) (List.drop 0 xs)++[AV.agg [i0 kk,i0 a,i0 m,s0 t,L1 ks]]);let z2:=(xs++[AV.agg [i0 kk,i0 a,i0 m,s0 t,L1 ks]]);(true&&(true&&Nat.ble (0+List.length xs) (List.length xs))&&(true&&decide (List.length z1*64<=140737488355328/\List.length z1<=1152921504606846976)))=true/\inR IntKind.i64 ((↑(List.length z1):Int)-1)=true/\Wk (i0 ((↑(List.length z1):Int)-1)) (i0 (↑(List.length xs):Int))/\SameH (hpL [eR 1048577 [0,1] 5 z1,eF 1048578 [1,0] 6 [AV.agg [L3 ts,i0 k,i0 d,AV.slc 1048577 [0,1] 0 (List.length z1),i0 bad,i0 pl]]]) (hpL [eR 1048577 [0,1] 5 z2,eF 1048578 [1,0] 6 [AV.agg [L3 ts,i0 k,i0 d,AV.slc 1048577 [0,1] 0 (List.length z2),i0 bad,i0 pl]]])):=by kernel_rfl
theorem zanA (ts:List AV)(k d:Int)(xs:List AV)(bad pl:Int):zau5 (Orc.f Orc.z) ts k d xs bad pl=(let z1:=(hpL [eR 1048577 [0,0] 5 xs,eF 1048578 [1,0] 6 [AV.agg [L3 ts,i0 (k+1),i0 (d+1),AV.slc 1048577 [0,0] 0 (List.length xs),i0 bad,i0 pl]]]);decide (d>=24)=false/\inR IntKind.i64 (d+1)=true/\inR IntKind.i64 (k+1)=true/\Wk (b0 true) (b0 true)/\SameH z1 z1):=by kernel_rfl
theorem zanB (ts:List AV)(k d:Int)(xs:List AV)(bad pl:Int)(bad' pl':Int):zau6 (Orc.t Orc.z) ts k d xs bad pl bad' pl'=(let z1:=(hpL [eR 1048577 [0,0] 5 xs,eF 1048578 [1,0] 6 [AV.agg [L3 ts,i0 k,i0 d,AV.slc 1048577 [0,0] 0 (List.length xs),i0 bad',i0 pl']]]);let z2:=[AV.ptr 1048578 [1,0] 0 0,i0 16];decide (d>=24)=true/\U1 z2 (zasp xs ts k d bad pl) (Wk (b0 false) (b0 false)/\SameH z1 z1)):=by kernel_rfl
theorem zanx (ts:List AV)(k d:Int)(xs:List AV)(bad pl:Int)(bad' pl' c:Int):zau1 (Orc.f Orc.z) ts k d xs bad pl bad' pl' c=(let z1:=(hpL [eR 1048577 [0,0] 5 xs,eF 1048578 [1,0] 6 [AV.agg [L3 ts,i0 (k+1),i0 d,AV.slc 1048577 [0,0] 0 (List.length xs),i0 bad,i0 pl]]]);U1 [AV.ptr 1048578 [1,0] 0 0,i0 c] (zasp xs ts k d bad pl) (Nf (inR IntKind.i64 (k+1)=true/\Wk (b0 true) (b0 true)/\SameH z1 z1))):=by kernel_rfl
theorem zany (ts:List AV)(k d:Int)(xs:List AV)(bad pl:Int)(bad' pl' c:Int):zau2 (Orc.t Orc.z) ts k d xs bad pl bad' pl' c=(let z1:=(hpL [eR 1048577 [0,0] 5 xs,eF 1048578 [1,0] 6 [AV.agg [L3 ts,i0 k,i0 d,AV.slc 1048577 [0,0] 0 (List.length xs),i0 bad',i0 pl']]]);let z2:=AV.ptr 1048578 [1,0] 0 0;let z3:=(zasp xs ts k d bad pl);U1 [z2,i0 c] z3 (Yt (U1 [z2,i0 15] z3 (Wk (b0 false) (b0 false)/\SameH z1 z1)))):=by kernel_rfl
end Go.Proofs.YtpofhijgccocpaaGreatDoor
end
section
namespace Go.TP
open Go.AS
def offL:Lv->Nat
 | .expr=>5
 | .term=>4
 | .part=>3
 | .ranged=>2
 | .atom=>1
def Rt (r:R):Prop:=r.e=none->zaas r.n=true
theorem zarN {n:Nd}{x:Int × Int}{ts:List Tk}:Rt ⟨n,some x,ts⟩:=fun h=>by cases h
theorem right_two {k:Int}(hk:k=2∨k=3∨k=4∨k=8∨k=9){a:Int}{x y:Nd}(hx:zaas x=true)(hy:zaas y=true):zaas (.mk k a 0 ByteArray.empty [x,y])=true:=by
 refine zabH.2 ⟨?_,fun z hz => ?_⟩
 · rcases hk with rfl|rfl|rfl|rfl|rfl<;>rfl
 · rcases List.mem_cons.1 hz with rfl|hz
   · exact hx
   · rw [List.mem_singleton.1 hz];exact hy
theorem kmE_ne {k:Int}(h:kmE k≠0):kmE k=2∨kmE k=3∨kmE k=4∨kmE k=8∨kmE k=9:=by grind [kmE]
theorem kmT_ne {k:Int}(h:kmT k≠0):kmT k=2∨kmT k=3∨kmT k=4∨kmT k=8∨kmT k=9:=by grind [kmT]
theorem zaiQ {part:List Tk->R}{N:Nat}(hp:∀ ts,okT ts->Inv ts (part ts))(hq:∀ ts,okT ts->ts.length<=N->Rt (part ts))(km:Int->Int)(hk:∀ k,km k≠0->km k=2∨km k=3∨km k=4∨km k=8∨km k=9):∀ (n:Nat) (r:R),okT r.ts->r.ts.length<=N->Rt r->Rt (zaaL part km n r)
 | 0,r,_,_,h=>by rw [zaaL];exact h
 | n+1,r,h,hl,hn=>by
  rw [zaaL]
  split
  · rename_i hc
    have h1:=zaaq h
    have hl2:(zaal r.ts).length<=N:=Nat.le_trans h1.2 hl
    have h2:=hp _ h1.1
    refine zaiQ hp hq km hk n ⟨.mk (km (zaab r.ts).kind) (zaab r.ts).at_ 0 ByteArray.empty [r.n,(part (zaal r.ts)).n],(part (zaal r.ts)).e,(part (zaal r.ts)).ts⟩ h2.1 (Nat.le_trans h2.2 hl2) ?_
    intro he
    exact right_two (hk _ hc.2) (hn hc.1) (hq _ h1.1 hl2 he)
  · exact hn
theorem within_rt {d:Int}{t:Tk}{n0:Nd}{us:List Tk}{f:Int->List Tk->R}(hf:Rt (f (d+1) us)):Rt (zaaT d t n0 us f):=by
 unfold zaaT
 split
 · exact zarN
 · exact hf
theorem zaqx:∀ (l:List UInt8) (a:Int),l.all zacf=true->0<=a->0<=l.foldl (fun a c=>10*a+(c.toNat-48:Int)) a/\l.foldl (fun a c=>10*a+(c.toNat-48:Int)) a<10 ^ l.length*(a+1)
 | [],a,_,h=>⟨h,by simp only [List.foldl_nil,List.length_nil];omega⟩
 | c::l,a,hd,h=>by
  rw [List.all_cons,Bool.and_eq_true] at hd
  have hc:48<=c.toNat/\c.toNat<=57:=by
   have:=hd.1
   unfold zacf at this
   rw [Bool.and_eq_true] at this
   exact ⟨UInt8.le_iff_toNat_le.1 (of_decide_eq_true this.1),UInt8.le_iff_toNat_le.1 (of_decide_eq_true this.2)⟩
  obtain ⟨h1,h2⟩:=zaqx l (10*a+(c.toNat-48:Int)) hd.2 (by omega)
  refine ⟨h1,?_⟩
  rw [List.foldl_cons,List.length_cons,Int.pow_succ]
  refine Int.lt_of_lt_of_le h2 ?_
  rw [Int.mul_assoc]
  exact Int.mul_le_mul_of_nonneg_left (by omega) (Int.pow_nonneg (by decide))
theorem zaom {t:Tk}{k:Int}(h:zabr t=some k):0<=k/\k<=999999:=by
 unfold zabr at h
 split at h
 · rename_i hc
   cases h
   obtain ⟨h1,h2⟩:=zaqx t.text.data.toList 0 hc.2.1 (Int.le_refl _)
   refine ⟨h1,?_⟩
   have hl:t.text.data.toList.length<=6:=by rw [Array.length_toList];exact hc.2.2.2
   have hp:(10:Int) ^ t.text.data.toList.length<=10 ^ 6:=by
     generalize t.text.data.toList.length=n at hl
     match n,hl with
     | 0,_=>decide
     | 1,_=>decide
     | 2,_=>decide
     | 3,_=>decide
     | 4,_=>decide
     | 5,_=>decide
     | 6,_=>decide
     | n+7,h=>omega
   have h3:numB t.text.data.toList<10 ^ t.text.data.toList.length*(0+1):=h2
   have e6:(10:Int) ^ 6=1000000:=rfl
   rw [e6] at hp
   omega
 · cases h
theorem zagK (t:ByteArray):zaaB t=0∨zaaB t=1∨zaaB t=2∨zaaB t=3:=by grind [zaaB]
theorem zaj6 {a:Int}{t:ByteArray}(h:zaaB t=1):zaas (.mk 10 a 0 t [])=true:=by
 refine zabH.2 ⟨?_,fun z hz=>by cases hz⟩
 have e1:zabZ 10 t=if zaaB t-1<1 then zaaB t-1 else 1:=rfl
 have e2:zabh 10 0 t=(decide ((0:Int)=0)||(decide (zaaB t=3)&&(decide ((0:Int)<0)&&decide ((0:Int)<=999999)))):=rfl
 unfold zadt
 rw [e1,e2,h];rfl
theorem zafP {a k:Int}{t:ByteArray}{x:Nd}(h:(zaaB t=2/\k=0)∨(zaaB t=3/\0<=k/\k<=999999))(hx:zaas x=true):zaas (.mk 10 a k t [x])=true:=by
 refine zabH.2 ⟨?_,fun z hz=>by rw [List.mem_singleton.1 hz];exact hx⟩
 have e1:zabZ 10 t=1:=zaoY (by rcases h with h|h<;>simp [h.1])
 have e2:zabh 10 k t=(decide (k=0)||(decide (zaaB t=3)&&(decide (0<k)&&decide (k<=999999)))):=rfl
 have e3:zabh 10 k t=true:=by
  rw [e2]
  by_cases h0:k=0
  · rw [decide_eq_true h0];rfl
  · rcases h with ⟨_,h⟩|⟨h1,h2,h3⟩
    · exact absurd h h0
    · rw [decide_eq_true h1,decide_eq_true (by omega:0<k),decide_eq_true h3,Bool.or_eq_true];exact .inr rfl
 unfold zadt
 rw [e1,e3];rfl
theorem zalu {a:Int}{t:ByteArray}(h:zaav t=true):zaas (.mk 1 a 0 t [])=true:=by
 refine zabH.2 ⟨?_,fun z hz=>by cases hz⟩
 have e2:zabh 1 0 t=(zaav t&&decide ((0:Int)=0)):=rfl
 unfold zadt
 rw [e2,h];rfl
theorem zaAG {expr:Int->List Tk->R}{d:Int}{w:Tk}{ts:List Tk}(he:∀ d,Rt (expr d (zaal ts))):Rt (zapg expr d w ts):=by
 unfold zapg
 simp only
 split
 · exact zarN
 · rename_i h0
   refine within_rt ?_
   split
   · rename_i h1;exact fun _=>zaj6 h1
   · rename_i h1
     have hq:=he (d+1)
     split
     · rename_i hn;exact fun h=>absurd h hn
     · rename_i hn
       have hr:=hq (Classical.not_not.1 hn)
       split
       · rename_i h2;exact fun _=>zafP (.inl ⟨h2,rfl⟩) hr
       · rename_i h2
         have h3:zaaB w.text=3:=by have:=zagK w.text;omega
         split
         · rename_i hx;exact fun h=>absurd h hx
         · split
           · exact fun h=>by cases h
           · rename_i k hk;exact fun _=>zafP (.inr ⟨h3,zaom hk⟩) hr
theorem zakK:∀ (f:Nat) (lv:Lv) (d:Int) (ts:List Tk),okT ts->5*ts.length+offL lv<=f->Rt (PF f lv d ts)
 | 0,lv,_,ts,_,h=>by cases lv<;>simp only [offL] at h<;>omega
 | f+1,.expr,d,ts,h,hf=>by
  rw [PF]
  simp only [offL] at hf
  exact zaiQ (N:=ts.length) (fun us hu=>zaaS f .term d us hu) (fun us hu hl=>zakK f .term d us hu (by simp only [offL];omega)) kmE (fun _=>kmE_ne) f _ (zaaS f .term d ts h).1 (zaaS f .term d ts h).2 (zakK f .term d ts h (by simp only [offL];omega))
 | f+1,.term,d,ts,h,hf=>by
  rw [PF]
  simp only [offL] at hf
  exact zaiQ (N:=ts.length) (fun us hu=>zaaS f .part d us hu) (fun us hu hl=>zakK f .part d us hu (by simp only [offL];omega)) kmT (fun _=>kmT_ne) f _ (zaaS f .part d ts h).1 (zaaS f .part d ts h).2 (zakK f .part d ts h (by simp only [offL];omega))
 | f+1,.part,d,ts,h,hf=>by
  rw [PF]
  simp only [offL] at hf
  simp only
  split
  · exact zakK f .ranged d ts h (by simp only [offL];omega)
  · rename_i hk
    have hl:=zabU h (by omega)
    refine within_rt fun he=>zags (.inl rfl) (zakK f .part (d+1) _ (zaaq h).1 (by simp only [offL];omega) he)
 | f+1,.ranged,d,ts,h,hf=>by
  rw [PF]
  simp only [offL] at hf
  simp only
  split
  · rename_i hk
    have hl:=zabU h (by omega)
    exact within_rt fun he=>zags (.inr (.inl rfl)) (zakK f .atom (d+1) _ (zaaq h).1 (by simp only [offL];omega) he)
  · have h2:=zakK f .atom d ts h (by simp only [offL];omega)
    have i2:=zaaS f .atom d ts h
    have second:∀ (d:Int) (us:List Tk) (k a:Int) (n:Nd) (m:Bool),(k=8∨k=9)->okT us->us.length<=ts.length->zaas n=true->Rt (zabL (PF f .atom d) k a n m us):=fun d us k a n m hk hu hl hn=>by
      unfold zabL
      split
      · exact fun _=>zags (.inr (.inr rfl)) hn
      · exact fun he=>right_two (by omega) hn (zakK f .atom d us hu (by simp only [offL];omega) he)
    have h3:=zaaq i2.1
    have l3:=Nat.le_trans h3.2 i2.2
    split
    · rename_i hn;exact fun h=>absurd h hn
    · rename_i hn
      have hr:=h2 (Classical.not_not.1 hn)
      split
      · exact within_rt (second _ _ _ _ _ _ (.inl rfl) h3.1 l3 hr)
      · split
        · exact second _ _ _ _ _ _ (.inr rfl) h3.1 l3 hr
        · exact fun _=>hr
 | f+1,.atom,d,ts,h,hf=>by
  rw [PF]
  simp only [offL] at hf
  simp only
  have h1:=zaaq h
  have h3:=zaaq h1.1
  split
  · rename_i hk
    have hl:=zabU h (by omega)
    refine within_rt ?_
    have h2:=zakK f .expr (d+1) _ h1.1 (by simp only [offL];omega)
    split
    · exact h2
    · rename_i hn;exact fun _=>h2 (Classical.not_not.1 hn)
  · split
    · rename_i hk
      have hl:=zabU h (by omega)
      split
      · exact zaAG fun d=>zakK f .expr d _ h3.1 (by simp only [offL];omega)
      · split
        · rename_i hp;exact fun _=>zalu hp
        · exact zarN
    · exact fun h=>by cases h
end Go.TP
end
section
namespace Go.TP
open Go.AS
structure RN where
 kind:Int
 at_:Int
 n:Int
 text:ByteArray
 kids:List Nat
structure RS where
 ts:List Tk
 deep:Int
 out:List RN
 bad:Option (Int × Int)
def isR (k:Int)(s:RS):Bool:=s.bad.isNone&&decide ((zaab s.ts).kind=k)
def zaa1 (e:Int)(s:RS):RS:=match s.bad with
 | none=>{ s with bad:=some (e,(zaab s.ts).at_) }
 | some _=>s
def addR (n:RN)(s:RS):Nat × RS:=(s.out.length,{ s with out:=s.out++[n] })
def zaaI (s:RS):RS:={ s with ts:=zaal s.ts }
def downR (s:RS):Bool × RS:=if 24<=s.deep then (false,zaa1 16 s) else (true,{ s with deep:=s.deep+1,ts:=zaal s.ts })
def upR (s:RS):RS:={ s with deep:=s.deep-1 }
def zabz (k:Int)(s:RS):Bool × RS:=if isR k s then (true,zaaI s) else (false,zaa1 15 s)
def zab7 (part:RS->Nat × RS)(km:Int->Int)(is:RS->Bool):Nat->Nat × RS->Nat × RS
 | 0,r=>r
 | f+1,r=>if is r.2 then
   let t:=zaab r.2.ts
   let q:=part (zaaI r.2)
   zab7 part km is f (addR ⟨km t.kind,t.at_,0,ByteArray.empty,[r.1,q.1]⟩ q.2)
  else r
def isE (s:RS):Bool:=isR 7 s||isR 8 s
def RP:Nat->Lv->RS->Nat × RS
 | 0,_,s=>(0,s)
 | f+1,.expr,s=>zab7 (RP f .term) kmE isE f (RP f .term s)
 | f+1,.term,s=>zab7 (RP f .part) kmT (isR 9) f (RP f .part s)
 | f+1,.part,s =>
  if isR 10 s then
   let d:=downR s
   if d.1 then
    let q:=RP f .part d.2
    addR ⟨5,(zaab s.ts).at_,0,ByteArray.empty,[q.1]⟩ (upR q.2)
   else (0,d.2)
  else RP f .ranged s
 | f+1,.ranged,s =>
  if isR 5 s then
   let d:=downR s
   if d.1 then
    let q:=RP f .atom d.2
    addR ⟨6,(zaab s.ts).at_,0,ByteArray.empty,[q.1]⟩ (upR q.2)
   else (0,d.2)
  else
   let a:=RP f .atom s
   if isR 5 a.2 then
    let u:=(zaab a.2.ts).at_
    let d:=downR a.2
    if d.1 then
     if isR 2 d.2||isR 1 d.2 then
      let q:=RP f .atom d.2
      addR ⟨8,u,0,ByteArray.empty,[a.1,q.1]⟩ (upR q.2)
     else addR ⟨7,u,0,ByteArray.empty,[a.1]⟩ (upR d.2)
    else (0,d.2)
   else if isR 6 a.2 then
    let q:=RP f .atom (zaaI a.2)
    addR ⟨9,(zaab a.2.ts).at_,0,ByteArray.empty,[a.1,q.1]⟩ q.2
   else a
 | f+1,.atom,s =>
  if isR 2 s then
   let d:=downR s
   if d.1 then
    let q:=RP f .expr d.2
    (q.1,upR (zabz 3 q.2).2)
   else (0,d.2)
  else if isR 1 s then
   let w:=zaab s.ts
   if (zaab (zaal s.ts)).kind≠2 then
    if zaav w.text then addR ⟨1,w.at_,0,w.text,[]⟩ (zaaI s) else (0,zaa1 15 s)
   else if zaaB w.text=0 then (0,zaa1 15 s)
   else
    let d:=downR (zaaI s)
    if d.1 then
     let q:=if zaaB w.text=1 then ([],d.2) else let q:=RP f .expr d.2;([q.1],q.2)
     if zaaB w.text=3 then
      let c:=zabz 4 q.2
      if c.1 then
       match (if isR 1 c.2 then zabr (zaab c.2.ts) else none) with
       | none=>(0,zaa1 15 c.2)
       | some k=>addR ⟨10,w.at_,k,w.text,q.1⟩ (upR (zabz 3 (zaaI c.2)).2)
      else addR ⟨10,w.at_,0,w.text,q.1⟩ (upR (zabz 3 c.2).2)
     else addR ⟨10,w.at_,0,w.text,q.1⟩ (upR (zabz 3 q.2).2)
    else (0,d.2)
  else (0,zaa1 15 s)
theorem zaiV {s:RS}{x:Int × Int}(h:s.bad=some x)(k:Int):isR k s=false:=by unfold isR;rw [h];rfl
theorem zauq {s:RS}{x:Int × Int}(h:s.bad=some x)(e:Int):zaa1 e s=s:=by unfold zaa1;rw [h]
theorem zagW {s:RS}{x:Int × Int}(h:s.bad=some x)(k:Int):(zabz k s).2=s:=by
 unfold zabz;rw [zaiV h];exact zauq h _
theorem zaxE (s:RS)(x:Int × Int)(h:s.bad=some x):isE s=false:=by unfold isE;rw [zaiV h,zaiV h];rfl
inductive Rep (l:List RN):Nat->Nd->Prop
 | mk (a:Nat) (x:RN) (ks:List Nd) (hx:l[a]?=some x) (hl:x.kids.length=ks.length) (hlt:∀ b∈x.kids,b<a) (hk:∀ (i b:Nat) (k:Nd),x.kids[i]?=some b->ks[i]?=some k->Rep l b k):Rep l a (.mk x.kind x.at_ x.n x.text ks)
theorem Rep.mono {l:List RN}{a:Nat}{n:Nd}(h:Rep l a n)(m:List RN):Rep (l++m) a n:=by
 induction h with
 | mk a x ks hx hl hlt hk ih =>
  have ha:a<l.length:=(List.getElem?_eq_some_iff.1 hx).1
  exact .mk a x ks (by rw [List.getElem?_append_left ha];exact hx) hl hlt ih
theorem Rep.lt {l:List RN}{a:Nat}{n:Nd}(h:Rep l a n):a<l.length:=by
 cases h with
 | mk _ x ks hx hl hlt hk=>exact (List.getElem?_eq_some_iff.1 hx).1
def Agree (s:RS)(r:R)(q:Nat × RS):Prop:=match r.e with
 | none=>∃ xs,q.2=⟨r.ts,s.deep,s.out++xs,none⟩/\Rep (s.out++xs) q.1 r.n
 | some x=>q.2.bad=some x
theorem zapT {l:List RN}{k a n:Int}{t:ByteArray}:Rep (l++[⟨k,a,n,t,[]⟩]) l.length (.mk k a n t []) :=
 .mk l.length ⟨k,a,n,t,[]⟩ [] (by rw [List.getElem?_append_right (Nat.le_refl _),Nat.sub_self];rfl) rfl (fun b hb=>by cases hb) (fun i b k h=>by cases h)
theorem zajk {l:List RN}{k a n:Int}{t:ByteArray}{p:Nat}{x:Nd}(h:Rep l p x):Rep (l++[⟨k,a,n,t,[p]⟩]) l.length (.mk k a n t [x]) :=
 .mk l.length ⟨k,a,n,t,[p]⟩ [x] (by rw [List.getElem?_append_right (Nat.le_refl _),Nat.sub_self];rfl) rfl (fun b hb=>by rw [List.mem_singleton.1 hb];exact h.lt) fun i b k h1 h2=>by
  cases i with
  | zero=>cases h1;cases h2;exact h.mono _
  | succ i=>cases h1
theorem zapS {l:List RN}{k a n:Int}{t:ByteArray}{p q:Nat}{x y:Nd}(h:Rep l p x)(g:Rep l q y):Rep (l++[⟨k,a,n,t,[p,q]⟩]) l.length (.mk k a n t [x,y]) :=
 .mk l.length ⟨k,a,n,t,[p,q]⟩ [x,y] (by rw [List.getElem?_append_right (Nat.le_refl _),Nat.sub_self];rfl) rfl (fun b hb=>by
  rcases List.mem_cons.1 hb with rfl|hb
  · exact h.lt
  · rw [List.mem_singleton.1 hb];exact g.lt) fun i b k h1 h2=>by
  match i with
  | 0=>cases h1;cases h2;exact h.mono _
  | 1=>cases h1;cases h2;exact g.mono _
  | i+2=>cases h1
theorem zabi {s:RS}(h:s.bad=none)(k:Int):isR k s=decide ((zaab s.ts).kind=k):=by unfold isR;rw [h];rfl
theorem zabI {s:RS}(h:s.bad=none)(e:Int):(zaa1 e s).bad=some (e,(zaab s.ts).at_):=by unfold zaa1;rw [h]
theorem zafg {n:RN}{s:RS}{x:Int × Int}(h:s.bad=some x):(addR n s).2.bad=some x:=h
theorem zaj1 {s:RS}{x:Int × Int}(h:s.bad=some x):(upR s).bad=some x:=h
theorem zaiR {part:List Tk->R} {pr:RS->Nat × RS} {km:Int->Int} {is:RS->Bool} {d:Int} {N:Nat} (hp:∀ ts,okT ts->Inv ts (part ts)) (hq:∀ s:RS,okT s.ts->s.bad=none->s.deep=d->s.ts.length<=N->Agree s (part s.ts) (pr s))
  (hi:∀ s:RS,s.bad=none->(is s=true↔km (zaab s.ts).kind≠0)) (hb:∀ s x,s.bad=some x->is s=false) {s:RS} (hs:s.deep=d):∀ (f:Nat) (r:R) (q:Nat × RS),okT r.ts->r.ts.length<=N->Agree s r q->Agree s (zaaL part km f r) (zab7 pr km is f q)
 | 0,r,q,_,_,h=>by rw [zaaL,zab7];exact h
 | f+1,r,q,hk,hl,h=>by
  rw [zaaL,zab7]
  cases he:r.e with
  | some x =>
   have h':=h
   unfold Agree at h'
   rw [he] at h'
   rw [hb _ _ h',if_neg (fun c=>by cases c.1)];exact h
  | none =>
   have h':=h
   unfold Agree at h'
   rw [he] at h'
   obtain ⟨xs,hx,hr⟩:=h'
   have hb0:q.2.bad=none:=by rw [hx]
   have ht0:q.2.ts=r.ts:=by rw [hx]
   by_cases hc:km (zaab r.ts).kind≠0
   · rw [if_pos ⟨rfl,hc⟩,(hi q.2 hb0).2 (by rw [ht0];exact hc),if_pos rfl]
     have h1:=zaaq hk
     have h2:=hp _ h1.1
     have hl2:=Nat.le_trans h1.2 hl
     have g:=hq (zaaI q.2) (by show okT (zaal q.2.ts);rw [ht0];exact h1.1) hb0 (by show q.2.deep=d;rw [hx];exact hs) (by show (zaal q.2.ts).length<=N;rw [ht0];exact hl2)
     have e1:(zaaI q.2).ts=zaal r.ts:=by show zaal q.2.ts=_;rw [ht0]
     rw [e1] at g
     refine zaiR hp hq hi hb hs f _ _ h2.1 (Nat.le_trans h2.2 hl2) ?_
     unfold Agree at g ⊢
     show match (part (zaal r.ts)).e with|none=>_|some x=>_
     cases hpe:(part (zaal r.ts)).e with
     | some x=>rw [hpe] at g;exact zafg g
     | none =>
       rw [hpe] at g
       obtain ⟨ys,hy,hr2⟩:=g
       have e2:(zaaI q.2).out=s.out++xs:=by show q.2.out=_;rw [hx]
       have e3:(zaaI q.2).deep=s.deep:=by show q.2.deep=_;rw [hx]
       rw [e2] at hy hr2
       rw [e3] at hy
       refine ⟨xs++(ys++[⟨km (zaab q.2.ts).kind,(zaab q.2.ts).at_,0,ByteArray.empty,[q.1,(pr (zaaI q.2)).1]⟩]),?_,?_⟩
       · show ({ (pr (zaaI q.2)).2 with out:=_ }:RS)=_
         rw [hy]
         simp only [List.append_assoc]
       · show Rep _ (pr (zaaI q.2)).2.out.length _
         have e4:(pr (zaaI q.2)).2.out=s.out++xs++ys:=by rw [hy]
         rw [e4,ht0,<-List.append_assoc,<-List.append_assoc]
         exact zapS (hr.mono ys) hr2
   · rw [if_neg (fun c=>hc c.2)]
     have:is q.2=false:=by
       cases hh:is q.2 with
       | false=>rfl
       | true=>exact absurd ((hi q.2 hb0).1 hh) (by rw [ht0];exact hc)
     rw [this];exact h
end Go.TP
end
section
namespace Go.TP
open Go.AS
theorem zaaV {s:RS}{r:R}{q:Nat × RS}{x:Int × Int}(h:r.e=some x)(g:q.2.bad=some x):Agree s r q:=by unfold Agree;rw [h];exact g
theorem zadk {s:RS}{r:R}{q:Nat × RS}(h:r.e=none)(g:∃ xs,q.2=⟨r.ts,s.deep,s.out++xs,none⟩/\Rep (s.out++xs) q.1 r.n):Agree s r q:=by unfold Agree;rw [h];exact g
theorem zabT {s:RS}{r:R}{q:Nat × RS}(h:Agree s r q):(∃ x,r.e=some x/\q.2.bad=some x)∨(r.e=none/\∃ xs,q.2=⟨r.ts,s.deep,s.out++xs,none⟩/\Rep (s.out++xs) q.1 r.n):=by grind [Agree]
theorem zamT {s:RS}(h:s.deep=24):downR s=(false,zaa1 16 s):=if_pos (by omega)
theorem zaiL {s:RS}(h:s.deep<24):downR s=(true,{ s with deep:=s.deep+1,ts:=zaal s.ts }):=if_neg (by omega)
theorem zamS {s:RS}(hb:s.bad=none)(h1:s.deep<=24){n0:Nd}{f:Int->List Tk->R}{g:RS->Nat × RS}(hk:s.deep<24->Agree s (f (s.deep+1) (zaal s.ts)) (g { s with deep:=s.deep+1,ts:=zaal s.ts })) :
  Agree s (zaaT s.deep (zaab s.ts) n0 (zaal s.ts) f) (if (downR s).1=true then g (downR s).2 else (0,(downR s).2)):=by
 unfold zaaT
 by_cases hd:s.deep=24
 · rw [if_pos hd,zamT hd,if_neg (by simp)]
   exact zaaV rfl (zabI hb 16)
 · rw [if_neg hd,zaiL (by omega),if_pos rfl]
   exact hk (by omega)
theorem one_ok {s:RS}{r:R}{q:Nat × RS}{ts:List Tk}(h:Agree { s with deep:=s.deep+1,ts:=ts } r q)(k a:Int):Agree s ⟨.mk k a 0 ByteArray.empty [r.n],r.e,r.ts⟩ (addR ⟨k,a,0,ByteArray.empty,[q.1]⟩ (upR q.2)):=by
 rcases zabT h with ⟨x,e1,e2⟩|⟨e1,xs,e2,e3⟩
 · exact zaaV e1 (zafg (zaj1 e2))
 · refine zadk e1 ⟨xs++[⟨k,a,0,ByteArray.empty,[q.1]⟩],?_,?_⟩
   · show ({ upR q.2 with out:=(upR q.2).out++_ }:RS)=_
     rw [e2]
     simp only [upR,List.append_assoc]
     congr 1;omega
   · show Rep _ (upR q.2).out.length _
     have:(upR q.2).out=s.out++xs:=by rw [e2];rfl
     rw [this,<-List.append_assoc]
     exact zajk e3
theorem zavh {s s1:RS}{r1 r2:R}{q1 q2:Nat × RS}{xs:List RN}(h1:Rep (s.out++xs) q1.1 r1.n)(hs:s1.out=s.out++xs){dd:Int}(hd:s1.deep=s.deep+dd)(h2:Agree s1 r2 q2)(k a:Int)(up:RS->RS)(hu:∀ t,up t={ t with deep:=t.deep-dd }) :
  Agree s ⟨.mk k a 0 ByteArray.empty [r1.n,r2.n],r2.e,r2.ts⟩ (addR ⟨k,a,0,ByteArray.empty,[q1.1,q2.1]⟩ (up q2.2)):=by
 rcases zabT h2 with ⟨x,e1,e2⟩|⟨e1,ys,e2,e3⟩
 · exact zaaV e1 (zafg (by rw [hu];exact e2))
 · rw [hs,hd] at e2
   rw [hs] at e3
   refine zadk e1 ⟨xs++(ys++[⟨k,a,0,ByteArray.empty,[q1.1,q2.1]⟩]),?_,?_⟩
   · show ({ up q2.2 with out:=(up q2.2).out++_ }:RS)=_
     rw [hu,e2]
     simp only [List.append_assoc]
     congr 1;omega
   · show Rep _ (up q2.2).out.length _
     have:(up q2.2).out=s.out++xs++ys:=by rw [hu,e2]
     rw [this,<-List.append_assoc,<-List.append_assoc]
     exact zapS (h1.mono ys) e3
theorem zakZ {k:Int}{s:RS}(hb:s.bad=none):(zaaz k s.ts).1=none/\zabz k s=(true,{ s with ts:=(zaaz k s.ts).2 })∨∃ x,(zaaz k s.ts).1=some x/\(zabz k s).1=false/\(zabz k s).2.bad=some x:=by
 unfold zaaz zabz
 rw [zabi hb]
 by_cases h:(zaab s.ts).kind=k
 · rw [if_pos h,decide_eq_true h,if_pos rfl];exact .inl ⟨rfl,rfl⟩
 · rw [if_neg h,decide_eq_false h]
   exact .inr ⟨_,rfl,rfl,zabI hb 15⟩
theorem zaiP {s:RS}{us:List Tk}{w:Tk}{k:Int}{xs:List RN}{ps:List Nat}{ms:List Nd}(hrep:Rep (s.out++xs++[⟨10,w.at_,k,w.text,ps⟩]) (s.out++xs).length (.mk 10 w.at_ k w.text ms)) :
  Agree s ⟨.mk 10 w.at_ k w.text ms,(zaaz 3 us).1,(zaaz 3 us).2⟩ (addR ⟨10,w.at_,k,w.text,ps⟩ (upR (zabz 3 ⟨us,s.deep+1,s.out++xs,none⟩).2)):=by
 rcases zakZ (k:=3) (s:=⟨us,s.deep+1,s.out++xs,none⟩) rfl with ⟨e1,e2⟩|⟨x,e1,_,e3⟩
 · refine zadk e1 ⟨xs++[⟨10,w.at_,k,w.text,ps⟩],?_,?_⟩
   · show ({ upR (zabz 3 _).2 with out:=(upR (zabz 3 _).2).out++_ }:RS)=_
     rw [e2]
     simp only [upR,List.append_assoc]
     congr 1;omega
   · show Rep _ (upR (zabz 3 _).2).out.length _
     rw [e2,<-List.append_assoc];exact hrep
 · exact zaaV e1 (zafg (zaj1 e3))
end Go.TP
end
section
namespace Go.TP
open Go.AS
theorem ff:¬(false=true):=by decide
theorem zaxv (s:RS)(h:s.bad=none):isE s=true↔kmE (zaab s.ts).kind≠0:=by
 unfold isE kmE
 rw [zabi h,zabi h,Bool.or_eq_true,decide_eq_true_eq,decide_eq_true_eq]
 constructor
 · rintro (e|e)
   · rw [if_pos e];decide
   · rw [if_neg (by omega),if_pos e];decide
 · intro hn
   by_cases e:(zaab s.ts).kind=7
   · exact .inl e
   · rw [if_neg e] at hn
     by_cases e2:(zaab s.ts).kind=8
     · exact .inr e2
     · rw [if_neg e2] at hn;exact absurd rfl hn
theorem zaxu (s:RS)(h:s.bad=none):isR 9 s=true↔kmT (zaab s.ts).kind≠0:=by simp_all [kmT,zabi,decide_eq_true_eq,if_pos,if_neg]
theorem zaky:∀ (f:Nat) (lv:Lv) (s:RS),okT s.ts->s.bad=none->s.deep<=24->5*s.ts.length+offL lv<=f->Agree s (PF f lv s.deep s.ts) (RP f lv s)
 | 0,lv,_,_,_,_,h=>by cases lv<;>simp only [offL] at h<;>omega
 | f+1,.expr,s,hk,hb,hd,hf=>by
  simp only [offL] at hf
  rw [PF,RP]
  have i1:=zaaS f .term s.deep s.ts hk
  exact zaiR (N:=s.ts.length) (d:=s.deep) (fun us hu=>zaaS f .term s.deep us hu) (fun s' h1 h2 h3 h4=>by
   have:=zaky f .term s' h1 h2 (by omega) (by simp only [offL];omega)
   rw [h3] at this;exact this) zaxv zaxE rfl f _ _ i1.1 i1.2 (zaky f .term s hk hb hd (by simp only [offL];omega))
 | f+1,.term,s,hk,hb,hd,hf=>by
  simp only [offL] at hf
  rw [PF,RP]
  have i1:=zaaS f .part s.deep s.ts hk
  exact zaiR (N:=s.ts.length) (d:=s.deep) (fun us hu=>zaaS f .part s.deep us hu) (fun s' h1 h2 h3 h4=>by
   have:=zaky f .part s' h1 h2 (by omega) (by simp only [offL];omega)
   rw [h3] at this;exact this) zaxu (fun s x h=>zaiV h 9) rfl f _ _ i1.1 i1.2 (zaky f .part s hk hb hd (by simp only [offL];omega))
 | f+1,.part,s,hk,hb,hd,hf=>by
  simp only [offL] at hf
  rw [PF,RP,zabi hb]
  simp only
  by_cases h:(zaab s.ts).kind=10
  · rw [if_neg (fun c=>c h),decide_eq_true h,if_pos rfl]
    have hl:=zabU hk (by omega)
    exact zamS (f:=fun d ts=>⟨.mk 5 (zaab s.ts).at_ 0 ByteArray.empty [(PF f .part d ts).n],(PF f .part d ts).e,(PF f .part d ts).ts⟩) (g:=fun s'=>addR ⟨5,(zaab s.ts).at_,0,ByteArray.empty,[(RP f .part s').1]⟩ (upR (RP f .part s').2)) hb hd fun hd2 =>
      one_ok (zaky f .part { s with deep:=s.deep+1,ts:=zaal s.ts } (zaaq hk).1 hb (by show s.deep+1<=24;omega) (by show 5*(zaal s.ts).length+offL .part<=f;simp only [offL];omega)) 5 _
  · rw [if_pos h,decide_eq_false h,if_neg ff]
    exact zaky f .ranged s hk hb hd (by simp only [offL];omega)
 | f+1,.ranged,s,hk,hb,hd,hf=>by
  simp only [offL] at hf
  rw [PF,RP,zabi hb]
  simp only
  by_cases h:(zaab s.ts).kind=5
  · rw [if_pos h,decide_eq_true h,if_pos rfl]
    have hl:=zabU hk (by omega)
    exact zamS (f:=fun d ts=>⟨.mk 6 (zaab s.ts).at_ 0 ByteArray.empty [(PF f .atom d ts).n],(PF f .atom d ts).e,(PF f .atom d ts).ts⟩) (g:=fun s'=>addR ⟨6,(zaab s.ts).at_,0,ByteArray.empty,[(RP f .atom s').1]⟩ (upR (RP f .atom s').2)) hb hd fun hd2 =>
      one_ok (zaky f .atom { s with deep:=s.deep+1,ts:=zaal s.ts } (zaaq hk).1 hb (by show s.deep+1<=24;omega) (by show 5*(zaal s.ts).length+offL .atom<=f;simp only [offL];omega)) 6 _
  · rw [if_neg h,decide_eq_false h,if_neg ff]
    have ha:=zaky f .atom s hk hb hd (by simp only [offL];omega)
    have ia:=zaaS f .atom s.deep s.ts hk
    generalize PF f .atom s.deep s.ts=q at ha ia
    generalize RP f .atom s=a at ha
    rcases zabT ha with ⟨x,e1,e2⟩|⟨e1,xs,e2,e3⟩
    · rw [if_pos (show q.e≠none by rw [e1];simp),zaiV e2,zaiV e2,if_neg ff,if_neg ff]
      exact zaaV e1 e2
    · rw [if_neg (show ¬q.e≠none by rw [e1];simp)]
      obtain ⟨a1,a2⟩:=a
      have e2:a2=⟨q.ts,s.deep,s.out++xs,none⟩:=e2
      subst e2
      have e3:Rep (s.out++xs) a1 q.n:=e3
      have hb2:(⟨q.ts,s.deep,s.out++xs,none⟩:RS).bad=none:=rfl
      show Agree s _ (if isR 5 ⟨q.ts,s.deep,s.out++xs,none⟩=true then _ else _)
      rw [zabi hb2,zabi hb2]
      have t3:=zaaq ia.1
      by_cases h5:(zaab q.ts).kind=5
      · rw [if_pos h5,decide_eq_true h5,if_pos rfl]
        have hl:=zabU ia.1 (by omega)
        by_cases hd2:s.deep=24
        · unfold zaaT
          rw [if_pos hd2,zamT (s:=⟨q.ts,s.deep,s.out++xs,none⟩) hd2,if_neg ff]
          exact zaaV rfl (zabI (s:=⟨q.ts,s.deep,s.out++xs,none⟩) rfl 16)
        · unfold zaaT
          rw [if_neg hd2,zaiL (s:=⟨q.ts,s.deep,s.out++xs,none⟩) (by show s.deep<24;omega),if_pos rfl]
          have hb3:(⟨zaal q.ts,s.deep+1,s.out++xs,none⟩:RS).bad=none:=rfl
          show Agree s (zabL (PF f .atom (s.deep+1)) 8 (zaab q.ts).at_ q.n false (zaal q.ts)) (if (isR 2 ⟨zaal q.ts,s.deep+1,s.out++xs,none⟩||isR 1 ⟨zaal q.ts,s.deep+1,s.out++xs,none⟩)=true then _ else _)
          rw [zabi hb3,zabi hb3]
          unfold zabL
          by_cases hn:(zaab (zaal q.ts)).kind≠2/\(zaab (zaal q.ts)).kind≠1
          · rw [if_pos ⟨rfl,hn.1,hn.2⟩]
            have e:(decide ((zaab (zaal q.ts)).kind=2)||decide ((zaab (zaal q.ts)).kind=1))=false:=by rw [decide_eq_false hn.1,decide_eq_false hn.2];rfl
            show Agree s _ (if (decide ((zaab (zaal q.ts)).kind=2)||decide ((zaab (zaal q.ts)).kind=1))=true then _ else _)
            rw [e,if_neg ff]
            refine zadk rfl ⟨xs++[⟨7,(zaab q.ts).at_,0,ByteArray.empty,[a1]⟩],?_,?_⟩
            · show (⟨zaal q.ts,s.deep+1-1,(s.out++xs)++_,none⟩:RS)=_
              rw [List.append_assoc];congr 1;omega
            · show Rep _ (s.out++xs).length _
              rw [<-List.append_assoc];exact zajk e3
          · rw [if_neg (fun c=>hn ⟨c.2.1,c.2.2⟩)]
            have e:(decide ((zaab (zaal q.ts)).kind=2)||decide ((zaab (zaal q.ts)).kind=1))=true:=by
              rw [Bool.or_eq_true,decide_eq_true_eq,decide_eq_true_eq]
              by_cases g:(zaab (zaal q.ts)).kind=2
              · exact .inl g
              · right
                by_cases g2:(zaab (zaal q.ts)).kind=1
                · exact g2
                · exact absurd ⟨g,g2⟩ hn
            show Agree s _ (if (decide ((zaab (zaal q.ts)).kind=2)||decide ((zaab (zaal q.ts)).kind=1))=true then _ else _)
            rw [e,if_pos rfl]
            exact zavh (s:=s) (s1:=⟨zaal q.ts,s.deep+1,s.out++xs,none⟩) (r1:=q) (q1:=(a1,⟨q.ts,s.deep,s.out++xs,none⟩)) (xs:=xs) e3 rfl (dd:=1) rfl
              (zaky f .atom ⟨zaal q.ts,s.deep+1,s.out++xs,none⟩ t3.1 rfl (by show s.deep+1<=24;omega) (by show 5*(zaal q.ts).length+offL .atom<=f;have:=ia.2;simp only [offL];omega)) 8 _ upR (fun t=>rfl)
      · rw [if_neg h5,decide_eq_false h5,if_neg ff]
        by_cases h6:(zaab q.ts).kind=6
        · rw [if_pos h6,decide_eq_true h6,if_pos rfl]
          have hl:=zabU ia.1 (by omega)
          unfold zabL
          rw [if_neg (fun c=>by cases c.1)]
          exact zavh (s:=s) (s1:=⟨zaal q.ts,s.deep,s.out++xs,none⟩) (r1:=q) (q1:=(a1,⟨q.ts,s.deep,s.out++xs,none⟩)) (xs:=xs) e3 rfl (dd:=0) (by show s.deep=s.deep+0;omega)
            (zaky f .atom ⟨zaal q.ts,s.deep,s.out++xs,none⟩ t3.1 rfl hd (by show 5*(zaal q.ts).length+offL .atom<=f;have:=ia.2;simp only [offL];omega)) 9 _ (fun t=>t) (fun t=>by show t={ t with deep:=t.deep-0 };rw [Int.sub_zero])
        · rw [if_neg h6,decide_eq_false h6,if_neg ff]
          exact zadk rfl ⟨xs,rfl,e3⟩
 | f+1,.atom,s,hk,hb,hd,hf=>by
  simp only [offL] at hf
  rw [PF,RP,zabi hb,zabi hb]
  simp only
  have h1:=zaaq hk
  by_cases h2:(zaab s.ts).kind=2
  · rw [if_pos h2,decide_eq_true h2,if_pos rfl]
    have hl:=zabU hk (by omega)
    refine zamS (f:=fun d ts=>if (PF f .expr d ts).e≠none then PF f .expr d ts else ⟨(PF f .expr d ts).n,(zaaz 3 (PF f .expr d ts).ts).1,(zaaz 3 (PF f .expr d ts).ts).2⟩) (g:=fun s'=>((RP f .expr s').1,upR (zabz 3 (RP f .expr s').2).2)) hb hd fun hd2 => ?_
    have hq:=zaky f .expr { s with deep:=s.deep+1,ts:=zaal s.ts } h1.1 hb (by show s.deep+1<=24;omega) (by show 5*(zaal s.ts).length+offL .expr<=f;simp only [offL];omega)
    have hq:Agree { s with deep:=s.deep+1,ts:=zaal s.ts } (PF f .expr (s.deep+1) (zaal s.ts)) (RP f .expr { s with deep:=s.deep+1,ts:=zaal s.ts }):=hq
    generalize PF f .expr (s.deep+1) (zaal s.ts)=q at hq
    generalize RP f .expr { s with deep:=s.deep+1,ts:=zaal s.ts }=a at hq
    rcases zabT hq with ⟨x,e1,e2⟩|⟨e1,xs,e2,e3⟩
    · rw [if_pos (show q.e≠none by rw [e1];simp)]
      exact zaaV e1 (by show (upR (zabz 3 a.2).2).bad=_;rw [zagW e2];exact e2)
    · rw [if_neg (show ¬q.e≠none by rw [e1];simp),e2]
      rcases zakZ (k:=3) (s:=⟨q.ts,s.deep+1,s.out++xs,none⟩) rfl with ⟨g1,g2⟩|⟨x,g1,_,g3⟩
      · refine zadk g1 ⟨xs,?_,e3⟩
        show upR (zabz 3 ⟨q.ts,s.deep+1,s.out++xs,none⟩).2=_
        rw [g2]
        simp only [upR]
        congr 1;omega
      · exact zaaV g1 (zaj1 g3)
  · rw [if_neg h2,decide_eq_false h2,if_neg ff]
    by_cases hw:(zaab s.ts).kind=1
    · rw [if_pos hw,decide_eq_true hw,if_pos rfl]
      have hl:=zabU hk (by omega)
      have h3:=zaaq h1.1
      by_cases ho:(zaab (zaal s.ts)).kind=2
      · rw [if_pos ho,if_neg (fun c=>c ho)]
        have hl2:=zabU h1.1 (by omega)
        unfold zapg
        simp only
        by_cases f0:zaaB (zaab s.ts).text=0
        · rw [if_pos f0,if_pos f0];exact zaaV rfl (zabI hb 15)
        · rw [if_neg f0,if_neg f0]
          unfold zaaT
          by_cases hd2:s.deep=24
          · rw [if_pos hd2,zamT (s:=zaaI s) hd2,if_neg ff]
            exact zaaV rfl (zabI (s:=zaaI s) hb 16)
          · rw [if_neg hd2,zaiL (s:=zaaI s) (by show s.deep<24;omega),if_pos rfl]
            have eb:({ zaaI s with deep:=(zaaI s).deep+1,ts:=zaal (zaaI s).ts }:RS)=⟨zaal (zaal s.ts),s.deep+1,s.out,none⟩:=by
              show (⟨zaal (zaal s.ts),s.deep+1,s.out,s.bad⟩:RS)=_;rw [hb]
            simp only [eb]
            have hq:=zaky f .expr ⟨zaal (zaal s.ts),s.deep+1,s.out,none⟩ h3.1 rfl (by show s.deep+1<=24;omega) (by show 5*(zaal (zaal s.ts)).length+offL .expr<=f;simp only [offL];omega)
            have hq:Agree ⟨zaal (zaal s.ts),s.deep+1,s.out,none⟩ (PF f .expr (s.deep+1) (zaal (zaal s.ts))) (RP f .expr ⟨zaal (zaal s.ts),s.deep+1,s.out,none⟩):=hq
            by_cases f1:zaaB (zaab s.ts).text=1
            · rw [if_pos f1,if_pos f1,if_neg (by omega)]
              have e0:s.out=s.out++[]:=(List.append_nil _).symm
              show Agree s ⟨.mk 10 _ 0 _ [],_,_⟩ (addR _ (upR (zabz 3 ⟨zaal (zaal s.ts),s.deep+1,s.out,none⟩).2))
              rw [show (⟨zaal (zaal s.ts),s.deep+1,s.out,none⟩:RS)=⟨zaal (zaal s.ts),s.deep+1,s.out++[],none⟩ by rw [List.append_nil]]
              exact zaiP zapT
            · rw [if_neg f1,if_neg f1]
              generalize PF f .expr (s.deep+1) (zaal (zaal s.ts))=q at hq
              generalize RP f .expr ⟨zaal (zaal s.ts),s.deep+1,s.out,none⟩=a at hq
              rcases zabT hq with ⟨x,e1,e2⟩|⟨e1,xs,e2,e3⟩
              · rw [if_pos (show q.e≠none by rw [e1];simp)]
                refine zaaV e1 ?_
                by_cases f3:zaaB (zaab s.ts).text=3
                · rw [if_pos f3]
                  have c1:(zabz 4 a.2).1=false:=by unfold zabz;rw [zaiV e2];rfl
                  simp only [c1,zagW e2]
                  exact zafg (zaj1 e2)
                · rw [if_neg f3];simp only [zagW e2];exact zafg (zaj1 e2)
              · rw [if_neg (show ¬q.e≠none by rw [e1];simp)]
                obtain ⟨a1,a2⟩:=a
                have e2:a2=⟨q.ts,s.deep+1,s.out++xs,none⟩:=e2
                subst e2
                have e3:Rep (s.out++xs) a1 q.n:=e3
                by_cases f2:zaaB (zaab s.ts).text=2
                · rw [if_pos f2,if_neg (by omega)]
                  exact zaiP (zajk e3)
                · have f3:zaaB (zaab s.ts).text=3:=by have:=zagK (zaab s.ts).text;omega
                  rw [if_neg f2,if_pos f3]
                  rcases zakZ (k:=4) (s:=⟨q.ts,s.deep+1,s.out++xs,none⟩) rfl with ⟨g1,g2⟩|⟨x,g1,g2,g3⟩
                  · have g1:(zaaz 4 q.ts).1=none:=g1
                    rw [if_neg (show ¬(zaaz 4 q.ts).1≠none by rw [g1];simp)]
                    simp only [g2]
                    have hb4:(⟨(zaaz 4 q.ts).2,s.deep+1,s.out++xs,none⟩:RS).bad=none:=rfl
                    rw [if_pos trivial]
                    show Agree s _ (match (if isR 1 ⟨(zaaz 4 q.ts).2,s.deep+1,s.out++xs,none⟩=true then zabr (zaab (zaaz 4 q.ts).2) else none) with|none=>_|some k=>_)
                    rw [zabi hb4]
                    by_cases n1:(zaab (zaaz 4 q.ts).2).kind=1
                    · rw [decide_eq_true n1,if_pos rfl]
                      cases hn:zabr (zaab (zaaz 4 q.ts).2) with
                      | none=>exact zaaV rfl (zabI (s:=⟨(zaaz 4 q.ts).2,s.deep+1,s.out++xs,none⟩) rfl 15)
                      | some k=>exact zaiP (zajk e3)
                    · have hn:zabr (zaab (zaaz 4 q.ts).2)=none:=if_neg (fun c=>n1 c.1)
                      rw [decide_eq_false n1,if_neg ff,hn]
                      exact zaaV rfl (zabI (s:=⟨(zaaz 4 q.ts).2,s.deep+1,s.out++xs,none⟩) rfl 15)
                  · have g1:(zaaz 4 q.ts).1=some x:=g1
                    rw [if_pos (show (zaaz 4 q.ts).1≠none by rw [g1];simp)]
                    refine zaaV g1 ?_
                    simp only [g2,zagW g3]
                    exact zafg (zaj1 g3)
      · rw [if_neg ho,if_pos ho]
        by_cases hp:zaav (zaab s.ts).text=true
        · rw [if_pos hp,if_pos hp]
          refine zadk rfl ⟨[⟨1,(zaab s.ts).at_,0,(zaab s.ts).text,[]⟩],?_,zapT⟩
          show (⟨zaal s.ts,s.deep,s.out++_,s.bad⟩:RS)=_
          rw [hb]
        · rw [if_neg hp,if_neg hp];exact zaaV rfl (zabI hb 15)
    · rw [if_neg hw,decide_eq_false hw,if_neg ff]
      exact zaaV rfl (zabI hb 15)
end Go.TP
end
section
namespace Go.TP
open Go.AS
structure RI (n:Nat) (k:Int) (s t:RS):Prop where
 suf:t.ts <:+ s.ts
 ok:okT t.ts
 len:t.out.length+t.ts.length+n<=s.out.length+s.ts.length
 bad:∀ p,t.bad=some p->p.1≠0
 dn:t.bad=none->t.deep=s.deep+k
 d0:s.deep+k<=t.deep
 d1:t.deep<=s.deep+k+1
theorem RI.refl {s:RS}(h:okT s.ts)(hb:∀ p,s.bad=some p->p.1≠0):RI 0 0 s s :=
 ⟨List.suffix_refl _,h,Nat.le_refl _,hb,fun _=>by omega,by omega,by omega⟩
theorem RI.trans {n m:Nat}{k j:Int}{s t u:RS}(h:RI n k s t)(hb:t.bad=none)(g:RI m j t u):RI (n+m) (k+j) s u:=by
 have e:=h.dn hb
 have l1:=h.len
 have l2:=g.len
 have d0:=g.d0
 have d1:=g.d1
 exact ⟨g.suf.trans h.suf,g.ok,by omega,g.bad,fun hu=>by have:=g.dn hu;omega,by omega,by omega⟩
theorem RI.fail {n:Nat}{k:Int}{s t:RS}(h:RI n k s t){e:Int}(he:e≠0):RI n k s (zaa1 e t):=by
 unfold zaa1
 split
 · exact ⟨h.suf,h.ok,h.len,fun p hp=>by cases hp;exact he,fun hc=>(nomatch hc),h.d0,h.d1⟩
 · exact h
theorem zak9:∀ ts:List Tk,zaal ts <:+ ts
 | []=>List.suffix_refl _
 | t::r=>by
  show (if t.kind=11 then t::r else r) <:+ _
  split
  · exact List.suffix_refl _
  · exact List.suffix_cons ..
theorem zabo {ts:List Tk}(h:okT ts)(hk:(zaab ts).kind≠11):(zaal ts).length+1=ts.length:=by
 cases ts with
 | nil=>exact h.elim
 | cons t r =>
  have:zaal (t::r)=r:=if_neg hk
  rw [this];rfl
theorem zal {ts:List Tk}(h:okT ts):okT (zaal ts):=by
 cases ts with
 | nil=>exact h.elim
 | cons t r =>
  show okT (if t.kind=11 then t::r else r)
  split
  · exact h
  · rename_i hk
    cases r with
    | nil=>exact absurd h.2 hk
    | cons u r=>exact h.2.2
theorem RI.take {n:Nat}{k:Int}{s t:RS}(h:RI n k s t)(hk:(zaab t.ts).kind≠11):RI (n+1) k s (zaaI t):=by
 have l:=h.len
 have l2:=zabo h.ok hk
 exact ⟨(zak9 _).trans h.suf,zal h.ok,by show t.out.length+(zaal t.ts).length+(n+1)<=_;omega,h.bad,h.dn,h.d0,h.d1⟩
theorem RI.down {n:Nat}{k:Int}{s t:RS}(h:RI n k s t)(hk:(zaab t.ts).kind≠11):RI (n+1) (k+1) s { t with deep:=t.deep+1,ts:=zaal t.ts }:=by
 have l:=h.len
 have l2:=zabo h.ok hk
 have d0:=h.d0
 have d1:=h.d1
 exact ⟨(zak9 _).trans h.suf,zal h.ok,by show t.out.length+(zaal t.ts).length+(n+1)<=_;omega,h.bad,fun hb=>by have:=h.dn hb;show t.deep+1=_;omega,by show _<=t.deep+1;omega,by show t.deep+1<=_;omega⟩
theorem RI.up {n:Nat}{k:Int}{s t:RS}(h:RI n (k+1) s t):RI n k s (upR t):=by
 have d0:=h.d0
 have d1:=h.d1
 exact ⟨h.suf,h.ok,h.len,h.bad,fun hb=>by have:=h.dn hb;show t.deep-1=_;omega,by show _<=t.deep-1;omega,by show t.deep-1<=_;omega⟩
theorem RI.add {n:Nat}{k:Int}{s t:RS}(h:RI (n+1) k s t)(x:RN):RI n k s (addR x t).2:=by
 have l:=h.len
 exact ⟨h.suf,h.ok,by show (t.out++[x]).length+t.ts.length+n<=_;rw [List.length_append];show t.out.length+1+_+_<=_;omega,h.bad,h.dn,h.d0,h.d1⟩
theorem RI.less {n m:Nat}{k:Int}{s t:RS}(h:RI n k s t)(hm:m<=n):RI m k s t:=by
 have l:=h.len
 exact ⟨h.suf,h.ok,by omega,h.bad,h.dn,h.d0,h.d1⟩
theorem zaaA {k:Int}{s:RS}(h:isR k s=true):s.bad=none/\(zaab s.ts).kind=k:=by intros;subst_vars;simp_all [isR]
theorem RI.want {n:Nat}{k:Int}{s t:RS}(h:RI n k s t){c:Int}(hc:c≠11):RI n k s (zabz c t).2:=by
 unfold zabz
 cases hb:isR c t with
 | true=>exact (h.take (by rw [(zaaA hb).2];exact hc)).less (Nat.le_succ n)
 | false=>exact h.fail (by decide)
theorem RI.early {n:Nat}{s t:RS}(h:RI n 1 s t)(hb:t.bad=none){e:Int}(he:e≠0):RI n 0 s (zaa1 e t):=by
 have d:=h.dn hb
 unfold zaa1
 rw [hb]
 exact ⟨h.suf,h.ok,h.len,fun p hp=>by cases hp;exact he,fun hc=>(nomatch hc),by show s.deep+0<=t.deep;omega,by show t.deep<=_;omega⟩
theorem RI.downR {n:Nat}{k:Int}{s t:RS}(h:RI n k s t)(hk:(zaab t.ts).kind≠11)(f:RS->Nat × RS)(hf:∀ u,RI (n+1) (k+1) s u->(t.bad=none->u.bad=none)->RI n k s (f u).2) :
  RI n k s (if (downR t).1 then f (downR t).2 else (0,(downR t).2)).2:=by
 unfold Go.TP.downR
 by_cases hd:24<=t.deep
 · rw [if_pos hd];exact h.fail (by decide)
 · rw [if_neg hd];exact hf _ (h.down hk) fun hb=>hb
theorem zaiT {part:RS->Nat × RS} {km:Int->Int} {is:RS->Bool} (hi:∀ s,is s=true->s.bad=none/\(zaab s.ts).kind≠11)
  (hp:∀ s,okT s.ts->(∀ p,s.bad=some p->p.1≠0)->RI 0 0 s (part s).2) {s:RS}:∀ (f:Nat) (r:Nat × RS),RI 0 0 s r.2->RI 0 0 s (zab7 part km is f r).2
 | 0,r,h=>h
 | f+1,r,h=>by
  rw [zab7]
  cases hb:is r.2 with
  | false=>exact h
  | true =>
   obtain ⟨h1,h2⟩:=hi _ hb
   have g:=h.take h2
   have q:=g.trans h1 (hp _ g.ok g.bad)
   exact zaiT hi hp f _ (q.add _)
theorem zasT (s:RS)(h:isE s=true):s.bad=none/\(zaab s.ts).kind≠11:=by grind [isE,zaaA]
theorem zadQ:∀ (f:Nat) (lv:Lv) (s:RS),okT s.ts->(∀ p,s.bad=some p->p.1≠0)->RI 0 0 s (RP f lv s).2
 | 0,_,s,h,hb => .refl h hb
 | f+1,.expr,s,h,hb=>by
  rw [RP]
  exact zaiT zasT (fun t h1 h2=>zadQ f .term t h1 h2) f _ (zadQ f .term s h hb)
 | f+1,.term,s,h,hb=>by
  rw [RP]
  exact zaiT (fun t ht=>by obtain ⟨h1,h2⟩:=zaaA ht;exact ⟨h1,by rw [h2];decide⟩) (fun t h1 h2=>zadQ f .part t h1 h2) f _ (zadQ f .part s h hb)
 | f+1,.part,s,h,hb=>by
  rw [RP]
  cases hi:isR 10 s with
  | false=>exact zadQ f .ranged s h hb
  | true =>
   obtain ⟨h1,h2⟩:=zaaA hi
   refine RI.downR (.refl h hb) (by rw [h2];decide) (fun u=>addR _ (upR (RP f .part u).2)) fun u hu hn => ?_
   exact ((hu.trans (hn h1) (zadQ f .part u hu.ok hu.bad)).up).add _
 | f+1,.ranged,s,h,hb=>by
  rw [RP]
  cases hi:isR 5 s with
  | true =>
   obtain ⟨h1,h2⟩:=zaaA hi
   refine RI.downR (.refl h hb) (by rw [h2];decide) (fun u=>addR _ (upR (RP f .atom u).2)) fun u hu hn => ?_
   exact ((hu.trans (hn h1) (zadQ f .atom u hu.ok hu.bad)).up).add _
  | false =>
   have ha:=zadQ f .atom s h hb
   simp only [Bool.false_eq_true,if_false]
   cases h5:isR 5 (RP f .atom s).2 with
   | true =>
    obtain ⟨h1,h2⟩:=zaaA h5
    simp only [if_true]
    refine RI.downR ha (by rw [h2];decide) (fun u=>if isR 2 u||isR 1 u then addR _ (upR (RP f .atom u).2) else addR _ (upR u)) fun u hu hn => ?_
    split
    · exact ((hu.trans (hn h1) (zadQ f .atom u hu.ok hu.bad)).up).add _
    · exact hu.up.add _
   | false =>
    simp only [Bool.false_eq_true,if_false]
    cases h6:isR 6 (RP f .atom s).2 with
    | true =>
     obtain ⟨h1,h2⟩:=zaaA h6
     simp only [if_true]
     have g:=ha.take (by rw [h2];decide)
     exact (g.trans h1 (zadQ f .atom _ g.ok g.bad)).add _
    | false=>exact ha
 | f+1,.atom,s,h,hb=>by
  rw [RP]
  have h0:RI 0 0 s s := .refl h hb
  cases hi:isR 2 s with
  | true =>
   obtain ⟨h1,h2⟩:=zaaA hi
   refine RI.downR h0 (by rw [h2];decide) (fun u=>((RP f .expr u).1,upR (zabz 3 (RP f .expr u).2).2)) fun u hu hn => ?_
   exact ((hu.trans (hn h1) (zadQ f .expr u hu.ok hu.bad)).want (by decide)).up.less (Nat.zero_le _)
  | false =>
   simp only [Bool.false_eq_true,if_false]
   cases h1w:isR 1 s with
   | false=>exact h0.fail (by decide)
   | true =>
    obtain ⟨h1,h2⟩:=zaaA h1w
    have g:=h0.take (by rw [h2];decide)
    simp only [if_true]
    split
    · split
      · exact g.add _
      · exact h0.fail (by decide)
    · rename_i hk2
      have hk2:(zaab (zaal s.ts)).kind=2:=Decidable.not_not.1 hk2
      split
      · exact h0.fail (by decide)
      · have g0:RI 0 0 s (zaaI s):=g.less (Nat.zero_le _)
        have key:∀ (u:RS),RI 1 1 s u->u.bad=none->∀ q:List Nat × RS,q=(if zaaB (zaab s.ts).text=1 then ([],u) else ([(RP f .expr u).1],(RP f .expr u).2))->RI 1 1 s q.2:=by
          intro u hu hn q hq
          subst hq
          split
          · exact hu
          · exact hu.trans hn (zadQ f .expr u hu.ok hu.bad)
        unfold Go.TP.downR
        by_cases hd:24<=(zaaI s).deep
        · rw [if_pos hd];exact g0.fail (by decide)
        · rw [if_neg hd]
          have gd:RI 1 1 s { zaaI s with deep:=(zaaI s).deep+1,ts:=zaal (zaaI s).ts }:=g0.down (by show (zaab (zaal s.ts)).kind≠11;rw [hk2];decide)
          have gq:=key _ gd h1 _ rfl
          simp only [if_true]
          generalize hq:(if zaaB (zaab s.ts).text=1 then (([]:List Nat),({ zaaI s with deep:=(zaaI s).deep+1,ts:=zaal (zaaI s).ts }:RS)) else ([(RP f .expr { zaaI s with deep:=(zaaI s).deep+1,ts:=zaal (zaaI s).ts }).1],(RP f .expr { zaaI s with deep:=(zaaI s).deep+1,ts:=zaal (zaaI s).ts }).2))=q at gq ⊢
          split
          · split
            · rename_i hw
              have hw4:(zabz 4 q.2).2.bad=none/\RI 1 1 s (zabz 4 q.2).2:=by
                refine ⟨?_,gq.want (by decide)⟩
                unfold zabz at hw ⊢
                cases hb4:isR 4 q.2 with
                | true=>exact (zaaA hb4).1
                | false=>rw [hb4] at hw;exact nomatch hw
              split
              · exact (hw4.2.less (Nat.zero_le _)).early hw4.1 (by decide)
              · rename_i m hm
                have hk1:isR 1 (zabz 4 q.2).2=true:=by
                  cases hb1:isR 1 (zabz 4 q.2).2 with
                  | true=>rfl
                  | false=>rw [hb1] at hm;exact nomatch hm
                have g5:=(hw4.2.take (by rw [(zaaA hk1).2];decide)).less (Nat.le_succ 1)
                exact ((g5.want (by decide)).up).add _
            · exact (((gq.want (by decide)).want (by decide)).up).add _
          · exact ((gq.want (by decide)).up).add _
end Go.TP
end
section
namespace Go.Proofs.YtpofhijgccocpaaGreatDoor
open Go.AS Go.TP
noncomputable section
def xE (n:RN):AV:=rgV n.kind n.at_ n.n n.text (n.kids.map fun j:Nat=>i0 (j:Int))
def badE (s:RS):Int:=match s.bad with|none=>0|some p=>p.1
def badP (s:RS):Int:=match s.bad with|none=>0|some p=>p.2
def xS (c:Nat)(all:List Tk)(s:RS):Hp:=xHp c (all.map encT) ((all.length:Int)-s.ts.length) s.deep (s.out.map xE) (badE s) (badP s)
structure XInv (all:List Tk) (s:RS):Prop where
 suf:s.ts <:+ all
 ok:okT s.ts
 bad:∀ p,s.bad=some p->p.1≠0
 d0:0<=s.deep
 d1:s.deep<=26
 la:all.length<=1000000
 lo:s.out.length+s.ts.length<=1000000
theorem zaoI {X:WX}(hX:X.Sound)(hp:X.px=X0){f:Nat}(hs:(Tryz.prog.funcs[f]?).isSome=true)(hb:(fn f).body=some (code f))(hn:((fn f).name == "runtime.NumGoroutine")=false){os:Orc}{ys:List AV}{σ:Hp}{r:Back}(h:gY X f os ys σ r):FOk Tryz.prog gl0 f (xArg::ys) σ r:=by
 have hP:X.px.P=Tryz.prog:=by rw [hp];rfl
 have hg:X.px.gl=gl0:=by rw [hp];rfl
 have:=zade (X:=X) (d:=14) hX (f:=f) (fn:=fn f) (code:=code f) (by show X.px.P.funcs[f]?=_;rw [hP];exact fnOk f hs) hb hn h
 rw [<-hg,<-hP];exact this
theorem zaGy:XI.Sound:=(zaaR.ask _).askAt _ _
theorem zaBh:XFl.Sound:=(zaaR.ask _).askAt _ _
theorem zaDw:XAd.Sound:=(zaaR.ask _).askAt _ _
theorem shpI (k a:Int)(x:ByteArray):zaaF (Cx.B (cxV XI 14 fXIs)) shN 124 (.agg [i0 k,i0 a,s0 x])=true:=by kernel_rfl
theorem zaGY (k a:Int)(x:ByteArray):zaaF (Cx.B (cxV XFl 14 zabG)) shN 124 (.agg [i0 k,i0 a,s0 x])=true:=by kernel_rfl
variable {all:List Tk} {s:RS}
theorem zanv (h:XInv all s)(z:AV):(all.map encT).getD ((all.length:Int)-s.ts.length).toNat z=encT (zaab s.ts)/\(0:Int)<=(all.length:Int)-s.ts.length/\(all.length:Int)-s.ts.length<((all.map encT).length:Int):=by
 obtain ⟨p,hp⟩:=h.suf
 have hne:=zahr h.ok
 cases hts:s.ts with
 | nil=>exact absurd hts hne
 | cons t r =>
  rw [hts] at hp
  subst hp
  have e:(((p++t::r).length:Int)-((t::r).length:Nat))=(p.length:Int):=by
   rw [List.length_append];push_cast;omega
  rw [e]
  refine ⟨?_,by omega,?_⟩
  · rw [Int.toNat_natCast,List.map_append,List.getD_eq_getElem?_getD,List.getElem?_append_right (by rw [List.length_map];exact Nat.le_refl _),List.length_map,Nat.sub_self]
    rfl
  · rw [List.length_map,List.length_append];simp only [List.length_cons];omega
attribute [local irreducible] runF in
theorem zarf (h:XInv all s)(c:Int):FOk Tryz.prog gl0 fXIs [xArg,i0 c] (xS 0 all s) ⟨b0 (isR c s),xS 0 all s,[]⟩:=by
 obtain ⟨t1,t2,t3⟩:=zanv h (AV.lit (Value.tuple ⟨[]⟩))
 cases hb:s.bad with
 | none =>
  have e1:badE s=0:=by unfold badE;rw [hb]
  have e2:isR c s=((zaab s.ts).kind==c):=by
   unfold isR;rw [hb];simp only [Option.isNone_none,Bool.true_and]
   by_cases g:(zaab s.ts).kind=c
   · rw [decide_eq_true g,g];simp
   · rw [decide_eq_false g];simp [g]
  have g:=zaBT (all.map encT) ((all.length:Int)-s.ts.length) s.deep (s.out.map xE) (badP s) c (isR c s)
  have q:xIs _ _ _ _ _ _ _ _:=g.mpr (by
   refine ⟨rfl,rfl,rfl,rfl,rfl,rfl,rfl,rfl,rfl,?_,rfl,rfl,rfl,rfl,?_,.rfl⟩
   · rw [t1,decide_eq_true ⟨t2,t3⟩]
     show (true&&(true&&(zaaF _ shN 124 (.agg [i0 _,i0 _,s0 _])&&(true||false))))=true
     rw [shpI];rfl
   · rw [t1,e2];exact .refl _)
  unfold xS
  rw [e1]
  exact zaoI zaGy rfl (by kernel_rfl) (by kernel_rfl) (by kernel_rfl) q
 | some p =>
  have e2:isR c s=false:=by unfold isR;rw [hb];rfl
  have e3:badE s≠0:=by unfold badE;rw [hb];exact h.bad p hb
  rw [e2]
  have q:xIsB _ _ _ _ _ _ _ _:=(zau3 (all.map encT) ((all.length:Int)-s.ts.length) s.deep (s.out.map xE) (badE s) (badP s) c).mpr
   ⟨beq_false_of_ne e3,rfl,rfl,rfl,rfl,rfl,rfl,rfl,rfl,rfl,rfl,rfl,rfl,.refl _,.rfl⟩
  exact zaoI zaGy rfl (by kernel_rfl) (by kernel_rfl) (by kernel_rfl) q
attribute [local irreducible] runF in
theorem zah5 (h:XInv all s)(e:Int):FOk Tryz.prog gl0 zabG [xArg,i0 e] (xS 0 all s) ⟨i0 0,xS 0 all (zaa1 e s),[1048578]⟩:=by
 obtain ⟨t1,t2,t3⟩:=zanv h (AV.lit (Value.tuple ⟨[]⟩))
 cases hb:s.bad with
 | none =>
  have e1:badE s=0:=by unfold badE;rw [hb]
  have ef:zaa1 e s={ s with bad:=some (e,(zaab s.ts).at_) }:=by unfold zaa1;rw [hb]
  have q:zaDD _ _ _ _ _ _ _ _:=(zarg (all.map encT) ((all.length:Int)-s.ts.length) s.deep (s.out.map xE) (badP s) e (zaab s.ts).at_).mpr (by
   refine ⟨rfl,?_,.refl _,?_⟩
   · rw [t1,decide_eq_true ⟨t2,t3⟩]
     show (true&&(true&&(zaaF _ shN 124 (.agg [i0 _,i0 _,s0 _])&&(true||false))))=true
     rw [zaGY];rfl
   · rw [t1];exact .rfl)
  rw [ef]
  unfold xS
  rw [e1]
  exact zaoI zaBh rfl (by kernel_rfl) (by kernel_rfl) (by kernel_rfl) q
 | some p =>
  have e3:badE s≠0:=by unfold badE;rw [hb];exact h.bad p hb
  have ef:zaa1 e s=s:=by unfold zaa1;rw [hb]
  have q:zau4 _ _ _ _ _ _ _ _:=(zanz (all.map encT) ((all.length:Int)-s.ts.length) s.deep (s.out.map xE) (badE s) (badP s) e).mpr ⟨beq_false_of_ne e3,.refl _,.rfl⟩
  have g:=zaoI zaBh rfl (by kernel_rfl) (by kernel_rfl) (by kernel_rfl) q
  rw [ef]
  exact g.more (fun k hk=>(nomatch hk))
theorem con1 {f:Nat}{ys:List AV}{σ:Hp}{r:Back}(h:FOk Tryz.prog gl0 f (xArg::ys) σ r):zagZ Tryz.prog gl0 f (Sp.con [spX ys σ r]) :=
 Sp.ok fun s hs i _=>by rw [List.mem_singleton] at hs;subst hs;exact h
theorem zamz (e:Int)(s:RS):(zaa1 e s).ts=s.ts/\(zaa1 e s).deep=s.deep/\(zaa1 e s).out=s.out:=by
 unfold zaa1;split<;>exact ⟨rfl,rfl,rfl⟩
theorem zacy (c:Nat)(all:List Tk)(e:Int)(s:RS):xS c all (zaa1 e s)=xHp c (all.map encT) ((all.length:Int)-s.ts.length) s.deep (s.out.map xE) (badE (zaa1 e s)) (badP (zaa1 e s)):=by grind [xS,zamz]
variable {all:List Tk} {s:RS}
theorem zag4 (h:XInv all s)(hk:(zaab s.ts).kind≠11):(all.length:Int)-(zaal s.ts).length=(all.length:Int)-s.ts.length+1:=by
 have hne:=zahr h.ok
 cases hts:s.ts with
 | nil=>exact absurd hts hne
 | cons t r =>
  rw [hts] at hk
  have:zaal (t::r)=r:=if_neg hk
  rw [this]
  simp only [List.length_cons];omega
theorem x_in (h:XInv all s):inR .i64 ((all.length:Int)-s.ts.length+1)=true:=by
 obtain ⟨_,t2,t3⟩:=zanv h (.lit undef)
 rw [List.length_map] at t3
 have:=h.la
 exact zaag (by omega) (by omega)
attribute [local irreducible] runF in
theorem zah6 (h:XInv all s)(hk:(zaab s.ts).kind≠11):FOk Tryz.prog gl0 zaar [xArg] (xS 0 all s) ⟨b0 (downR s).1,xS 0 all (downR s).2,[1048578]⟩:=by
 by_cases hd:24<=s.deep
 · have e:downR s=(false,zaa1 16 s):=if_pos hd
   have hc:=zah5 h 16
   rw [zacy] at hc
   rw [e]
   show FOk _ _ _ _ _ ⟨b0 false,xS 0 all (zaa1 16 s),_⟩
   rw [zacy]
   have q:zau6 _ _ _ _ _ _ _ _ _:=(zanB (all.map encT) ((all.length:Int)-s.ts.length) s.deep (s.out.map xE) (badE s) (badP s) (badE (zaa1 16 s)) (badP (zaa1 16 s))).mpr
     ⟨decide_eq_true hd,(),⟨trivial,.refl _,rfl⟩,.refl _,.rfl⟩
   exact zaoI ((zaaR.add (con1 hc)).ask _) rfl (by kernel_rfl) (by kernel_rfl) (by kernel_rfl) q
 · have e:downR s=(true,{ s with deep:=s.deep+1,ts:=zaal s.ts }):=if_neg hd
   rw [e]
   have h0:=h.d0
   have q:zau5 _ _ _ _ _ _ _:=(zanA (all.map encT) ((all.length:Int)-s.ts.length) s.deep (s.out.map xE) (badE s) (badP s)).mpr
     ⟨decide_eq_false hd,zaag (by omega) (by omega),x_in h,.refl _,.rfl⟩
   have g:=zaoI (zaaR.ask _) rfl (by kernel_rfl) (by kernel_rfl) (by kernel_rfl) q
   show FOk _ _ _ _ _ ⟨b0 true,xHp 0 _ ((all.length:Int)-(zaal s.ts).length) (s.deep+1) _ _ _,_⟩
   rw [zag4 h hk]
   exact g
attribute [local irreducible] runF in
theorem zara (h:XInv all s)(c:Int)(hc:c≠11):FOk Tryz.prog gl0 zabt [xArg,i0 c] (xS 0 all s) ⟨b0 (zabz c s).1,xS 0 all (zabz c s).2,[1048578]⟩:=by
 have hf:=zah5 h 15
 rw [zacy] at hf
 have hi:=zarf h c
 have hX:=(zaaR.add (con1 hf)).add (con1 hi)
 cases hb:isR c s with
 | true =>
  have e:zabz c s=(true,zaaI s):=by unfold zabz;rw [hb];rfl
  rw [e]
  have hk:(zaab s.ts).kind≠11:=by
   unfold isR at hb
   rw [Bool.and_eq_true,decide_eq_true_iff] at hb
   rw [hb.2];exact hc
  rw [hb] at hX
  have q:zau1 _ _ _ _ _ _ _ _ _ _:=(zanx (all.map encT) ((all.length:Int)-s.ts.length) s.deep (s.out.map xE) (badE s) (badP s) (badE (zaa1 15 s)) (badP (zaa1 15 s)) c).mpr
   ⟨(),⟨trivial,.refl _,rfl⟩,rfl,x_in h,.refl _,.rfl⟩
  have g:=zaoI (hX.ask _) rfl (by kernel_rfl) (by kernel_rfl) (by kernel_rfl) q
  show FOk _ _ _ _ _ ⟨b0 true,xHp 0 _ ((all.length:Int)-(zaal s.ts).length) s.deep _ _ _,_⟩
  rw [zag4 h hk]
  exact g
 | false =>
  have e:zabz c s=(false,zaa1 15 s):=by unfold zabz;rw [hb];rfl
  rw [e]
  rw [hb] at hX
  show FOk _ _ _ _ _ ⟨b0 false,xS 0 all (zaa1 15 s),_⟩
  rw [zacy]
  have q:zau2 _ _ _ _ _ _ _ _ _ _:=(zany (all.map encT) ((all.length:Int)-s.ts.length) s.deep (s.out.map xE) (badE s) (badP s) (badE (zaa1 15 s)) (badP (zaa1 15 s)) c).mpr
   ⟨(),⟨trivial,.refl _,rfl⟩,rfl,(),⟨trivial,.refl _,rfl⟩,.refl _,.rfl⟩
  exact zaoI (hX.ask _) rfl (by kernel_rfl) (by kernel_rfl) (by kernel_rfl) q
attribute [local irreducible] runF in
theorem zakS (h:XInv all s)(n:RN):FOk Tryz.prog gl0 zabN [xArg,xE n] (xS 0 all s) ⟨i0 (addR n s).1,xS 1 all (addR n s).2,[1048577,1048578]⟩:=by
 have hl:=h.lo
 have hm:(s.out.map xE).length=s.out.length:=List.length_map ..
 have q:xAdd _ _ _ _ _ _ _ _ _ _ _ _:=(zau7 (all.map encT) ((all.length:Int)-s.ts.length) s.deep (s.out.map xE) (badE s) (badP s) n.kind n.at_ n.n n.text (n.kids.map fun j:Nat=>i0 (j:Int))).mpr (by
  try dsimp only
  rw [List.drop_zero,List.take_length]
  have el:∀ z:AV,(s.out.map xE++[z]).length=s.out.length+1:=fun z=>by rw [List.length_append,hm];rfl
  have ei:((s.out.length+1:Nat):Int)-1=(s.out.length:Int):=by push_cast;omega
  rw [el,ei,hm]
  refine ⟨?_,zaag (by omega) (by omega),.refl _,?_⟩
  · rw [Nat.zero_add,decide_eq_true (by constructor<;>omega)]
    have:Nat.ble s.out.length s.out.length=true:=Nat.ble_eq_true_of_le (Nat.le_refl _)
    rw [this];rfl
  · rw [<-hm];exact .rfl)
 have g:=zaoI zaDw rfl (by kernel_rfl) (by kernel_rfl) (by kernel_rfl) q
 show FOk _ _ _ _ _ ⟨i0 (s.out.length:Int),xHp 1 _ _ _ ((s.out++[n]).map xE) _ _,_⟩
 rw [List.map_append,<-hm]
 exact g
def gZ (X:WX)(f:Nat)(os:Orc)(ys:List AV)(σ:Hp)(r:Back):Prop:=runF X 14 f (fn f) (code f) os 0 [1048577] (xArg::ys) σ r
abbrev spI (c:Int)(b:Bool)(σ:Hp):Sp:=spX [i0 c] σ ⟨b0 b,σ,[]⟩
abbrev spD (b:Bool)(σ τ:Hp):Sp:=spX [] σ ⟨b0 b,τ,[1048578]⟩
abbrev spV (v:Int)(σ τ:Hp):Sp:=spX [] σ ⟨i0 v,τ,[1048577,1048578]⟩
abbrev spA (n:AV)(v:Int)(σ τ:Hp):Sp:=spX [n] σ ⟨i0 v,τ,[1048577,1048578]⟩
def XQn (X:WX)(f:Nat)(ds:List Nat):WX:=(X.ask askX).askAt f ds
def gPaR (os:Orc)(ts:List AV)(k d:Int)(xs:List AV)(k' d':Int)(xs':List AV)(bad' pl' v:Int):Prop :=
 gZ (XQn ((XB.add fXIs (Sp.con [spI 10 false (xHp 0 ts k d xs 0 0)])).add zaat (Sp.con [spV v (xHp 0 ts k d xs 0 0) (xHp 1 ts k' d' xs' bad' pl')])) zaaU [17,19]) zaaU os [] (xHp 0 ts k d xs 0 0) ⟨i0 v,xHp 1 ts k' d' xs' bad' pl',[1048577,1048578]⟩
def gPaN (os:Orc)(ts:List AV)(k d:Int)(xs:List AV)(bad' pl':Int):Prop :=
 runF (XQn ((XB.add fXIs (Sp.con [spI 10 true (xHp 0 ts k d xs 0 0)])).add zaar (Sp.con [spD false (xHp 0 ts k d xs 0 0) (xHp 0 ts k d xs bad' pl')])) zaaU [17,19]) 14 zaaU (fn zaaU) (code zaaU) os 0 [] [xArg] (xHp 0 ts k d xs 0 0) ⟨i0 0,xHp 0 ts k d xs bad' pl',[1048577,1048578]⟩
def gPaY (os:Orc)(ts:List AV)(k d:Int)(xs:List AV)(k1:Int)(k2 d2:Int)(xs2:List AV)(bad2 pl2 v a:Int):Prop :=
 gZ (XQn ((((XB.add fXIs (Sp.con [spI 10 true (xHp 0 ts k d xs 0 0)])).add zaar (Sp.con [spD true (xHp 0 ts k d xs 0 0) (xHp 0 ts k1 (d+1) xs 0 0)])).add zaaU (Sp.con [spV v (xHp 0 ts k1 (d+1) xs 0 0) (xHp 1 ts k2 d2 xs2 bad2 pl2)])).add zabN (Sp.con [spA (rgV 5 a 0 ByteArray.empty [i0 v]) xs2.length (xHp 0 ts k2 (d2-1) xs2 bad2 pl2) (xHp 1 ts k2 (d2-1) (xs2++[rgV 5 a 0 ByteArray.empty [i0 v]]) bad2 pl2)])) zaaU [17,19])
  zaaU os [] (xHp 0 ts k d xs 0 0) ⟨i0 xs2.length,xHp 1 ts k2 (d2-1) (xs2++[rgV 5 a 0 ByteArray.empty [i0 v]]) bad2 pl2,[1048577,1048578]⟩
def X0P:PX:={ X0 with own:=fun f d=>Nat.beq f zabu&&Nat.beq d 23 }
theorem zavA:X0P.Sound:=by
 refine ⟨zaic.1,zaic.2,fun f g h => ?_⟩
 have h:bsel (Nat.beq f zabO) (some (pureX Tryz.prog Extern.BytealgIndexByte.indexByte)) none=some g:=h
 cases hb:Nat.beq f zabO
 · rw [hb,zaai] at h;cases h
 · rw [hb,zaam] at h;cases h
   obtain rfl:=Nat.eq_of_beq_eq_true hb
   exact zacq (C:=cx X0P zabO fun _ _ _ _ _=>none) zasS
def XBP:WX:=WX.base X0P
theorem zauH:XBP.Sound := .base zavA
def xP0 (ts:List AV):Hp:=hpL [(1048577,⟨[0,0],.row true 6 [.agg [.lst false 3 ts,i0 0,i0 0,.agg [.lit (.slice none 0 0)],i0 0,i0 0]]⟩)]
def xP1 (ts:List AV)(k d:Int)(xs:List AV)(bad pl:Int):Hp:=hpL [(1048577,⟨[0,0],.row false 6 [.agg [.lst false 3 ts,i0 k,i0 d,.agg [.slc 1048578 [0,1] 0 xs.length],i0 bad,i0 pl]]⟩),(1048578,⟨[0,1],.row true 5 xs⟩)]
def xHpN (ts:List AV)(k d:Int)(xs:List AV)(bad pl:Int):Hp:=hpL [(1048577,⟨[0,0],.row true 5 xs⟩),(1048578,⟨[1,0],.row false 6 [xRow ts k d (.agg [xSl 0 xs.length]) bad pl]⟩)]
abbrev spPE (ts:List AV)(v k d:Int)(xs:List AV)(bad pl:Int):Sp:=⟨Unit,fun _=>True,fun _=>[.ptr 1048577 [0,0] 0 0],fun _=>xP0 ts,fun _=>⟨i0 v,xP1 ts k d xs bad pl,[1048577,1048578]⟩⟩
abbrev spLx (s:ByteArray)(r:AV):Sp := .pure Unit (fun _=>True) (fun _=>[s0 s]) (fun _=>r)
def gXP (X:WX)(os:Orc)(fz:Nat)(s:ByteArray)(r:AV):Prop:=runF (X.ask (fXCut::askX)) 14 zabu (fn zabu) (code zabu) os fz [] [s0 s] .nil ⟨r,.nil,[]⟩
abbrev zais:AV := .agg [.lst false 5 []]
def gXPL (os:Orc)(s:ByteArray)(e i:Int):Prop:=gXP (XBP.add zabj (Sp.con [spLx s (.tup [.lst false 3 [],i0 e,i0 i])])) os 0 s (.tup [zais,i0 e,i0 i])
def gXPB (os:Orc)(s:ByteArray)(ts:List AV)(v k d:Int)(xs:List AV)(bad pl:Int):Prop :=
 gXP ((XBP.add zabj (Sp.con [spLx s (.tup [.lst false 3 ts,i0 0,i0 0])])).add zaap (Sp.con [spPE ts v k d xs bad pl])) os 0 s (.tup [zais,i0 bad,i0 pl])
def gXPN (os:Orc)(s:ByteArray)(ts:List AV)(v k d:Int)(xs:List AV)(bad pl:Int):Prop :=
 gXP ((((XBP.add zabj (Sp.con [spLx s (.tup [.lst false 3 ts,i0 0,i0 0])])).add zaap (Sp.con [spPE ts v k d xs 0 0])).add fXIs (Sp.con [spI 11 false (xHpN ts k d xs 0 0)])).add zabG (Sp.con [spX [i0 15] (xHpN ts k d xs 0 0) ⟨i0 0,xHpN ts k d xs bad pl,[1048578]⟩])) os 0 s (.tup [zais,i0 bad,i0 pl])
def gXPY (os:Orc)(s:ByteArray)(ts:List AV)(v k d:Int)(xs:List AV):Prop :=
 gXP (((XBP.add zabj (Sp.con [spLx s (.tup [.lst false 3 ts,i0 0,i0 0])])).add zaap (Sp.con [spPE ts v k d xs 0 0])).add fXIs (Sp.con [spI 11 true (xHpN ts k d xs 0 0)])) os 1 s (.tup [.agg [.lst false 5 (xs.take (v+1).toNat)],i0 0,i0 0])
def X0E:PX:={ X0 with gl:=glE }
def XBE:WX:=WX.base X0E
abbrev spQ (xs:List AV)(r:AV):Sp:=⟨Unit,fun _=>True,fun _=>xs,fun _ => .nil,fun _=>⟨r,.nil,[]⟩⟩
abbrev fTop:Nat:=14
def gTop (os:Orc)(ns:List AV):Prop:=gF XB [fTop] fTop os [zadO ns] (i0 ((ns.length:Int)-1))
end
end Go.Proofs.YtpofhijgccocpaaGreatDoor
end
section
namespace Go.Proofs.YtpofhijgccocpaaGreatDoor
open Go Go.AS Go.TP
theorem zayB (ns:List AV):gTop (Orc.z) ns=(let z1:=((↑(List.length ns):Int)-1);inR IntKind.i64 z1=true/\Wk (i0 z1) (i0 z1)/\S0):=by kernel_rfl
end Go.Proofs.YtpofhijgccocpaaGreatDoor
end
section
namespace Go.Proofs.YtpofhijgccocpaaGreatDoor
open Go Go.AS Go.TP
noncomputable abbrev zawB (xs:List AV) (ts:List AV) (k:Int) (d:Int):=[eR 1048577 [0,0] 5 xs,eF 1048578 [1,0] 6 [AV.agg [L3 ts,i0 k,i0 d,AV.agg [AV.slc 1048577 [0,0] 0 (List.length xs)],i0 0,i0 0]]]
theorem zaqL (s:ByteArray)(e i:Int):gXPL (Orc.t Orc.z) s e i=(U1 [s0 s] [] ((e != 0)=true/\Wk (AV.tup [AV.agg [AV.lit (Value.slice none 0 0)],i0 e,i0 i]) (AV.tup [AV.agg [L5 []],i0 e,i0 i])/\S0)):=by kernel_rfl
theorem zayf (s:ByteArray)(ts:List AV)(v k d:Int)(xs:List AV)(bad pl:Int):gXPB (Orc.f (Orc.f (Orc.f (Orc.f (Orc.f (Orc.t Orc.z)))))) s ts v k d xs bad pl=(let z1:=[eR 1048577 [0,0] 6 [AV.agg [L3 ts,i0 0,i0 0,AV.agg [AV.lit (Value.slice none 0 0)],i0 0,i0 0]]];U1 [s0 s] [] (Nf (U1 [AV.ptr 1048577 [0,0] 0 0] z1 ((bad==0)=false/\Nf (Nf (Nf ((bad != 0)=true/\Wk (AV.tup [AV.agg [AV.lit (Value.slice none 0 0)],i0 bad,i0 pl]) (AV.tup [AV.agg [L5 []],i0 bad,i0 pl])/\S0))))))):=by kernel_rfl
theorem zaye (s:ByteArray)(ts:List AV)(v k d:Int)(xs:List AV)(bad pl:Int):gXPN (Orc.f (Orc.t (Orc.t (Orc.t (Orc.t (Orc.t Orc.z)))))) s ts v k d xs bad pl=(let z1:=[eR 1048577 [0,0] 6 [AV.agg [L3 ts,i0 0,i0 0,AV.agg [AV.lit (Value.slice none 0 0)],i0 0,i0 0]]];let z2:=AV.ptr 1048578 [1,0] 0 0;let z3:=(zawB xs ts k d);U1 [s0 s] [] (Nf (U1 [AV.ptr 1048577 [0,0] 0 0] z1 (Yt (Yt (U1 [z2,i0 11] z3 (Yt (Yt (U1 [z2,i0 15] z3 ((bad != 0)=true/\Wk (AV.tup [AV.agg [AV.lit (Value.slice none 0 0)],i0 bad,i0 pl]) (AV.tup [AV.agg [L5 []],i0 bad,i0 pl])/\S0)))))))))):=by kernel_rfl
theorem zayd (s:ByteArray)(ts:List AV)(v k d:Int)(xs:List AV):gXPY (Orc.f (Orc.t (Orc.t (Orc.t (Orc.f (Orc.f Orc.z)))))) s ts v k d xs=(let z1:=(Option.getD (some (v+1)) (↑(List.length xs):Int)-0);let z2:=[eR 1048577 [0,0] 6 [AV.agg [L3 ts,i0 0,i0 0,AV.agg [AV.lit (Value.slice none 0 0)],i0 0,i0 0]]];let z3:=(↑(List.length xs):Int);let z4:=[AV.ptr 1048578 [1,0] 0 0,i0 11];U1 [s0 s] [] (Nf (U1 [AV.ptr 1048577 [0,0] 0 0] z2 (Yt (Yt (U1 z4 (zawB xs ts k d) (Yt (Nf (Nf (inR IntKind.i64 (v+1)=true/\(decide ((0:Int)<=(0:Int)/\(0:Int)<=Option.getD (some (v+1)) z3/\Option.getD (some (v+1)) z3<=z3)&&(true&&Nat.beq 5 5))=true/\0+Int.toNat z1<=List.length xs/\0+Int.toNat z1<=List.length xs/\0+Int.toNat z1<=List.length xs/\0+List.length xs<=List.length xs/\0+List.length xs<=List.length xs/\Wk (AV.tup [AV.agg [L5 (List.take (Int.toNat z1) (List.drop 0 xs))],i0 0,i0 0]) (AV.tup [AV.agg [L5 (List.take (Int.toNat (v+1)) xs)],i0 0,i0 0])/\S0)))))))))):=by kernel_rfl
end Go.Proofs.YtpofhijgccocpaaGreatDoor
end
section
namespace Go.Proofs.YtpofhijgccocpaaGreatDoor
open Go.AS Go.TP
noncomputable section
abbrev exX (v:Int)(σ:Hp)(ws:List Nat):Ex × Back:=(.exit 0,⟨.tup [i0 v],σ,ws⟩)
def gXL (X:WX)(f:Nat)(os:Orc)(P:Prop)(v':Int)(σ':Hp)(r':Ex × Back)(fc:List Nat)(v:Int)(σ:Hp)(r:Ex × Back):Prop :=
 runL X 14 f (fn f).ntmps (zaaX (code f) 0) (Lp1 [0,3] [] (fun _=>[3]) P [xArg,i0 v'] σ' r') (Lp1 [0,3] [] (fun _=>[3]) P [xArg,i0 v'] σ' r') os 0 fc [xArg,i0 v] σ r
def gLTE (os:Orc)(P:Prop)(ts:List AV)(k d:Int)(xs:List AV)(bad pl va:Int):Prop :=
 gXL (XQn (XB.add fXIs (Sp.con [spI 9 false (xHp 0 ts k d xs bad pl)])) zaaY [18,20]) zaaY os P va (xHp 0 ts k d xs bad pl) (exX va (xHp 0 ts k d xs bad pl) []) [] va (xHp 0 ts k d xs bad pl) (exX va (xHp 0 ts k d xs bad pl) [])
def gLT9 (os:Orc)(P:Prop)(ts:List AV)(k d:Int)(xs:List AV)(va k2 d2:Int)(xs2:List AV)(bad2 pl2 v a:Int)(vr kr dr:Int)(xr:List AV)(badr plr:Int):Prop :=
 gXL (XQn (((XB.add fXIs (Sp.con [spI 9 true (xHp 0 ts k d xs 0 0)])).add zaaU (Sp.con [spV v (xHp 0 ts (k+1) d xs 0 0) (xHp 1 ts k2 d2 xs2 bad2 pl2)])).add zabN (Sp.con [spA (rgV 4 a 0 ByteArray.empty [i0 va,i0 v]) xs2.length (xHp 0 ts k2 d2 xs2 bad2 pl2) (xHp 1 ts k2 d2 (xs2++[(rgV 4 a 0 ByteArray.empty [i0 va,i0 v])]) bad2 pl2)])) zaaY [18,20]) zaaY os P xs2.length (xHp 0 ts k2 d2 (xs2++[(rgV 4 a 0 ByteArray.empty [i0 va,i0 v])]) bad2 pl2) (exX vr (xHp 1 ts kr dr xr badr plr) [1048577,1048578]) [1048577] va (xHp 0 ts k d xs 0 0) (exX vr (xHp 1 ts kr dr xr badr plr) [1048577,1048578])
def gFT (os:Orc)(ts:List AV)(k d:Int)(xs:List AV)(ka da:Int)(xsa:List AV)(bada pla va:Int)(vr kr dr:Int)(xr:List AV)(badr plr:Int):Prop :=
 runF (((XB.add zaaU (Sp.con [spV va (xHp 0 ts k d xs 0 0) (xHp 1 ts ka da xsa bada pla)])).addLp zaaY 0 (Lp1 [0,3] [] (fun _=>[3]) True [xArg,i0 va] (xHp 0 ts ka da xsa bada pla) (exX vr (xHp 1 ts kr dr xr badr plr) [1048577,1048578]))).ask askX) 14 zaaY (fn zaaY) (code zaaY) os 0 [1048577] [xArg] (xHp 0 ts k d xs 0 0) ⟨i0 vr,(xHp 1 ts kr dr xr badr plr),[1048577,1048578]⟩
def gLEE (os:Orc)(P:Prop)(ts:List AV)(k d:Int)(xs:List AV)(bad pl va:Int):Prop :=
 gXL (XQn (XB.add fXIs (Sp.con [spI 7 false (xHp 0 ts k d xs bad pl),spI 8 false (xHp 0 ts k d xs bad pl)])) zaap [22,24]) zaap os P va (xHp 0 ts k d xs bad pl) (exX va (xHp 0 ts k d xs bad pl) []) [] va (xHp 0 ts k d xs bad pl) (exX va (xHp 0 ts k d xs bad pl) [])
def gLE7 (os:Orc)(P:Prop)(ts:List AV)(k d:Int)(xs:List AV)(va k2 d2:Int)(xs2:List AV)(bad2 pl2 v a:Int)(vr kr dr:Int)(xr:List AV)(badr plr:Int):Prop :=
 gXL (XQn (((XB.add fXIs (Sp.con [spI 7 true (xHp 0 ts k d xs 0 0),spI 8 false (xHp 0 ts k d xs 0 0)])).add zaaY (Sp.con [spV v (xHp 0 ts (k+1) d xs 0 0) (xHp 1 ts k2 d2 xs2 bad2 pl2)])).add zabN (Sp.con [spA (rgV 2 a 0 ByteArray.empty [i0 va,i0 v]) xs2.length (xHp 0 ts k2 d2 xs2 bad2 pl2) (xHp 1 ts k2 d2 (xs2++[(rgV 2 a 0 ByteArray.empty [i0 va,i0 v])]) bad2 pl2)])) zaap [22,24]) zaap os P xs2.length (xHp 0 ts k2 d2 (xs2++[(rgV 2 a 0 ByteArray.empty [i0 va,i0 v])]) bad2 pl2) (exX vr (xHp 1 ts kr dr xr badr plr) [1048577,1048578]) [1048577] va (xHp 0 ts k d xs 0 0) (exX vr (xHp 1 ts kr dr xr badr plr) [1048577,1048578])
def gLE8 (os:Orc)(P:Prop)(ts:List AV)(k d:Int)(xs:List AV)(va k2 d2:Int)(xs2:List AV)(bad2 pl2 v a:Int)(vr kr dr:Int)(xr:List AV)(badr plr:Int):Prop :=
 gXL (XQn (((XB.add fXIs (Sp.con [spI 7 false (xHp 0 ts k d xs 0 0),spI 8 true (xHp 0 ts k d xs 0 0)])).add zaaY (Sp.con [spV v (xHp 0 ts (k+1) d xs 0 0) (xHp 1 ts k2 d2 xs2 bad2 pl2)])).add zabN (Sp.con [spA (rgV 3 a 0 ByteArray.empty [i0 va,i0 v]) xs2.length (xHp 0 ts k2 d2 xs2 bad2 pl2) (xHp 1 ts k2 d2 (xs2++[(rgV 3 a 0 ByteArray.empty [i0 va,i0 v])]) bad2 pl2)])) zaap [22,24]) zaap os P xs2.length (xHp 0 ts k2 d2 (xs2++[(rgV 3 a 0 ByteArray.empty [i0 va,i0 v])]) bad2 pl2) (exX vr (xHp 1 ts kr dr xr badr plr) [1048577,1048578]) [1048577] va (xHp 0 ts k d xs 0 0) (exX vr (xHp 1 ts kr dr xr badr plr) [1048577,1048578])
def gFE (os:Orc)(ts:List AV)(k d:Int)(xs:List AV)(ka da:Int)(xsa:List AV)(bada pla va:Int)(vr kr dr:Int)(xr:List AV)(badr plr:Int):Prop :=
 runF (((XB.add zaaY (Sp.con [spV va (xHp 0 ts k d xs 0 0) (xHp 1 ts ka da xsa bada pla)])).addLp zaap 0 (Lp1 [0,3] [] (fun _=>[3]) True [xArg,i0 va] (xHp 0 ts ka da xsa bada pla) (exX vr (xHp 1 ts kr dr xr badr plr) [1048577,1048578]))).ask askX) 14 zaap (fn zaap) (code zaap) os 0 [1048577] [xArg] (xHp 0 ts k d xs 0 0) ⟨i0 vr,(xHp 1 ts kr dr xr badr plr),[1048577,1048578]⟩
end
end Go.Proofs.YtpofhijgccocpaaGreatDoor
end
section
namespace Go.Proofs.YtpofhijgccocpaaGreatDoor
open Go Go.AS Go.TP
noncomputable abbrev zaij (xs:List AV) (ts:List AV) (k:Int) (d:Int):=[eR 1048577 [0,0] 5 xs,eF 1048578 [1,0] 6 [AV.agg [L3 ts,i0 k,i0 d,AV.slc 1048577 [0,0] 0 (List.length xs),i0 0,i0 0]]]
noncomputable abbrev zafs (xr:List AV) (ts:List AV) (kr:Int) (dr:Int) (badr:Int) (plr:Int):=(hpL [eR 1048577 [0,1] 5 xr,eF 1048578 [1,0] 6 [AV.agg [L3 ts,i0 kr,i0 dr,AV.slc 1048577 [0,1] 0 (List.length xr),i0 badr,i0 plr]]])
noncomputable abbrev zawC (xs:List AV) (ts:List AV) (k:Int) (d:Int) (bad:Int) (pl:Int):=[eR 1048577 [0,0] 5 xs,eF 1048578 [1,0] 6 [AV.agg [L3 ts,i0 k,i0 d,AV.slc 1048577 [0,0] 0 (List.length xs),i0 bad,i0 pl]]]
noncomputable abbrev zaso (xs:List AV) (ts:List AV) (k:Int) (d:Int):=[eR 1048577 [0,0] 5 xs,eF 1048578 [1,0] 6 [AV.agg [L3 ts,i0 (k+1),i0 d,AV.slc 1048577 [0,0] 0 (List.length xs),i0 0,i0 0]]]
theorem zazt (P:Prop)(ts:List AV)(k d:Int)(xs:List AV)(bad pl va:Int):gLTE (Orc.f Orc.z) P ts k d xs bad pl va=(let z1:=(zawC xs ts k d bad pl);U1 [AV.ptr 1048578 [1,0] 0 0,i0 9] z1 (Nf (Ex.exit 0=Ex.exit 0/\Wk (AV.tup [i0 va]) (AV.tup [i0 va])/\SameH (hpL z1) (hpL z1)))):=by kernel_rfl
theorem zazu (P:Prop)(ts:List AV)(k d:Int)(xs:List AV)(va k2 d2:Int)(xs2:List AV)(bad2 pl2:Int)(v a:Int)(vr kr dr:Int)(xr:List AV)(badr plr:Int):gLT9 (Orc.t Orc.z) P ts k d xs va k2 d2 xs2 bad2 pl2 v a vr kr dr xr badr plr=(let z1:=[eR 1048577 [0,0] 5 (xs2++[AV.agg [i0 4,i0 a,i0 0,s0 ByteArray.empty,L1 [i0 va,i0 v]]]),eF 1048578 [1,0] 6 [AV.agg [L3 ts,i0 k2,i0 d2,AV.slc 1048577 [0,0] 0 (List.length (xs2++[AV.agg [i0 4,i0 a,i0 0,s0 ByteArray.empty,L1 [i0 va,i0 v]]])),i0 bad2,i0 pl2]]];let z2:=AV.ptr 1048578 [1,0] 0 0;let z3:=[eR 1048577 [0,0] 5 xs2,eF 1048578 [1,0] 6 [AV.agg [L3 ts,i0 k2,i0 d2,AV.slc 1048577 [0,0] 0 (List.length xs2),i0 bad2,i0 pl2]]];let z4:=(↑(List.length xs2):Int);U1 [z2,i0 9] (zaij xs ts k d) (Yt ((decide ((0:Int)<=k/\k<(↑(List.length ts):Int))&&(Nat.beq 3 3&&(zaaF (Cx.B (cxV (XQn (WX.add (WX.add (WX.add XB fXIs (Sp.con [spI (9:Int) true (xHp 0 ts k d xs (0:Int) (0:Int))])) zaaU (Sp.con [spV v (xHp 0 ts (k+1) d xs (0:Int) (0:Int)) (xHp 1 ts k2 d2 xs2 bad2 pl2)])) zabN (Sp.con [spA (rgV (4:Int) a (0:Int) ByteArray.empty [i0 va,i0 v]) z4 (xHp 0 ts k2 d2 xs2 bad2 pl2) (xHp 1 ts k2 d2 (xs2++[rgV (4:Int) a (0:Int) ByteArray.empty [i0 va,i0 v]]) bad2 pl2)])) zaaY [18,20]) 14 zaaY)) shN 124 (List.getD ts (Int.toNat k) uu)&&(true||false))))=true/\inR IntKind.i64 (k+1)=true/\U1 [z2] (zaso xs ts k d) (∃ (_:Unit),(True/\Wks [z2,AV.agg [i0 4,i0 (intA (nthA 1 (List.getD ts (Int.toNat k) uu))),i0 0,s0 ⟨⟨[]⟩⟩,AV.lst true 1 [i0 va,i0 v]]] [z2,AV.agg [i0 4,i0 a,i0 0,s0 ByteArray.empty,L1 [i0 va,i0 v]]]/\hpL z3=hpL z3)/\∃ (_:Unit),(P/\Wks [z2,i0 z4] [z2,i0 z4]/\hpL z1=hpL z1)/\Ex.exit 0=Ex.exit 0/\Wk (AV.tup [i0 vr]) (AV.tup [i0 vr])/\SameH (zafs xr ts kr dr badr plr) (zafs xr ts kr dr badr plr))))):=by kernel_rfl
theorem zaCG (ts:List AV)(k d:Int)(xs:List AV)(ka da:Int)(xsa:List AV)(bada pla:Int)(va vr:Int)(kr dr:Int)(xr:List AV)(badr plr:Int):gFT (Orc.z) ts k d xs ka da xsa bada pla va vr kr dr xr badr plr=(let z1:=[eR 1048577 [0,0] 5 xsa,eF 1048578 [1,0] 6 [AV.agg [L3 ts,i0 ka,i0 da,AV.slc 1048577 [0,0] 0 (List.length xsa),i0 bada,i0 pla]]];let z2:=AV.ptr 1048578 [1,0] 0 0;U1 [z2] (zaij xs ts k d) (U1 [z2,i0 va] z1 (Wk (i0 vr) (i0 vr)/\SameH (zafs xr ts kr dr badr plr) (zafs xr ts kr dr badr plr)))):=by kernel_rfl
def zaE3:Orc:=Orc.alt 0 (Orc.f (Orc.f (Orc.alt 1 (Orc.f Orc.z))))
theorem zazv (P:Prop)(ts:List AV)(k d:Int)(xs:List AV)(bad pl va:Int):gLEE zaE3 P ts k d xs bad pl va=(let z1:=(zawC xs ts k d bad pl);let z2:=AV.ptr 1048578 [1,0] 0 0;U1 [z2,i0 7] z1 (Nf (Nf (U1 [z2,i0 8] z1 (Nf (Ex.exit 0=Ex.exit 0/\Wk (AV.tup [i0 va]) (AV.tup [i0 va])/\SameH (hpL z1) (hpL z1))))))):=by kernel_rfl
def zaE5:Orc:=Orc.alt 0 (Orc.t (Orc.t (Orc.t (Orc.alt 1 (Orc.f Orc.z)))))
theorem zazx (P:Prop)(ts:List AV)(k d:Int)(xs:List AV)(va k2 d2:Int)(xs2:List AV)(bad2 pl2:Int)(v a:Int)(vr kr dr:Int)(xr:List AV)(badr plr:Int):gLE7 zaE5 P ts k d xs va k2 d2 xs2 bad2 pl2 v a vr kr dr xr badr plr=(let z1:=[eR 1048577 [0,0] 5 (xs2++[AV.agg [i0 2,i0 a,i0 0,s0 ByteArray.empty,L1 [i0 va,i0 v]]]),eF 1048578 [1,0] 6 [AV.agg [L3 ts,i0 k2,i0 d2,AV.slc 1048577 [0,0] 0 (List.length (xs2++[AV.agg [i0 2,i0 a,i0 0,s0 ByteArray.empty,L1 [i0 va,i0 v]]])),i0 bad2,i0 pl2]]];let z2:=AV.ptr 1048578 [1,0] 0 0;let z3:=[eR 1048577 [0,0] 5 xs2,eF 1048578 [1,0] 6 [AV.agg [L3 ts,i0 k2,i0 d2,AV.slc 1048577 [0,0] 0 (List.length xs2),i0 bad2,i0 pl2]]];let z4:=(↑(List.length xs2):Int);let z5:=(zaij xs ts k d);let z6:=(xHp 0 ts k d xs (0:Int) (0:Int));U1 [z2,i0 7] z5 (Yt (Yt (Yt ((decide ((0:Int)<=k/\k<(↑(List.length ts):Int))&&(Nat.beq 3 3&&(zaaF (Cx.B (cxV (XQn (WX.add (WX.add (WX.add XB fXIs (Sp.con [spI (7:Int) true z6,spI (8:Int) false z6])) zaaY (Sp.con [spV v (xHp 0 ts (k+1) d xs (0:Int) (0:Int)) (xHp 1 ts k2 d2 xs2 bad2 pl2)])) zabN (Sp.con [spA (rgV (2:Int) a (0:Int) ByteArray.empty [i0 va,i0 v]) z4 (xHp 0 ts k2 d2 xs2 bad2 pl2) (xHp 1 ts k2 d2 (xs2++[rgV (2:Int) a (0:Int) ByteArray.empty [i0 va,i0 v]]) bad2 pl2)])) zaap [22,24]) 14 zaap)) shN 124 (List.getD ts (Int.toNat k) uu)&&(true||false))))=true/\U1 [z2,i0 8] z5 (Nf (inR IntKind.i64 (k+1)=true/\U1 [z2] (zaso xs ts k d) (∃ (_:Unit),(True/\Wks [z2,AV.agg [i0 2,i0 (intA (nthA 1 (List.getD ts (Int.toNat k) uu))),i0 0,s0 ⟨⟨[]⟩⟩,AV.lst true 1 [i0 va,i0 v]]] [z2,AV.agg [i0 2,i0 a,i0 0,s0 ByteArray.empty,L1 [i0 va,i0 v]]]/\hpL z3=hpL z3)/\∃ (_:Unit),(P/\Wks [z2,i0 z4] [z2,i0 z4]/\hpL z1=hpL z1)/\Ex.exit 0=Ex.exit 0/\Wk (AV.tup [i0 vr]) (AV.tup [i0 vr])/\SameH (zafs xr ts kr dr badr plr) (zafs xr ts kr dr badr plr))))))))):=by kernel_rfl
def zaE4:Orc:=Orc.alt 0 (Orc.f (Orc.f (Orc.alt 1 (Orc.t (Orc.alt 1 (Orc.t Orc.z))))))
theorem zazw (P:Prop)(ts:List AV)(k d:Int)(xs:List AV)(va k2 d2:Int)(xs2:List AV)(bad2 pl2:Int)(v a:Int)(vr kr dr:Int)(xr:List AV)(badr plr:Int):gLE8 zaE4 P ts k d xs va k2 d2 xs2 bad2 pl2 v a vr kr dr xr badr plr=(let z1:=[eR 1048577 [0,0] 5 (xs2++[AV.agg [i0 3,i0 a,i0 0,s0 ByteArray.empty,L1 [i0 va,i0 v]]]),eF 1048578 [1,0] 6 [AV.agg [L3 ts,i0 k2,i0 d2,AV.slc 1048577 [0,0] 0 (List.length (xs2++[AV.agg [i0 3,i0 a,i0 0,s0 ByteArray.empty,L1 [i0 va,i0 v]]])),i0 bad2,i0 pl2]]];let z2:=AV.ptr 1048578 [1,0] 0 0;let z3:=[eR 1048577 [0,0] 5 xs2,eF 1048578 [1,0] 6 [AV.agg [L3 ts,i0 k2,i0 d2,AV.slc 1048577 [0,0] 0 (List.length xs2),i0 bad2,i0 pl2]]];let z4:=(True/\Wks [z2,i0 8] [z2,i0 8]/\hpL (zaij xs ts k d)=hpL (zaij xs ts k d));let z5:=(↑(List.length xs2):Int);let z6:=(xHp 0 ts k d xs (0:Int) (0:Int));U1 [z2,i0 7] (zaij xs ts k d) (Nf (Nf (∃ (_:Unit),z4/\Yt ((decide ((0:Int)<=k/\k<(↑(List.length ts):Int))&&(Nat.beq 3 3&&(zaaF (Cx.B (cxV (XQn (WX.add (WX.add (WX.add XB fXIs (Sp.con [spI (7:Int) false z6,spI (8:Int) true z6])) zaaY (Sp.con [spV v (xHp 0 ts (k+1) d xs (0:Int) (0:Int)) (xHp 1 ts k2 d2 xs2 bad2 pl2)])) zabN (Sp.con [spA (rgV (3:Int) a (0:Int) ByteArray.empty [i0 va,i0 v]) z5 (xHp 0 ts k2 d2 xs2 bad2 pl2) (xHp 1 ts k2 d2 (xs2++[rgV (3:Int) a (0:Int) ByteArray.empty [i0 va,i0 v]]) bad2 pl2)])) zaap [22,24]) 14 zaap)) shN 124 (List.getD ts (Int.toNat k) uu)&&(true||false))))=true/\∃ (_:Unit),z4/\Yt (inR IntKind.i64 (k+1)=true/\U1 [z2] (zaso xs ts k d) (∃ (_:Unit),(True/\Wks [z2,AV.agg [i0 3,i0 (intA (nthA 1 (List.getD ts (Int.toNat k) uu))),i0 0,s0 ⟨⟨[]⟩⟩,AV.lst true 1 [i0 va,i0 v]]] [z2,AV.agg [i0 3,i0 a,i0 0,s0 ByteArray.empty,L1 [i0 va,i0 v]]]/\hpL z3=hpL z3)/\∃ (_:Unit),(P/\Wks [z2,i0 z5] [z2,i0 z5]/\hpL z1=hpL z1)/\Ex.exit 0=Ex.exit 0/\Wk (AV.tup [i0 vr]) (AV.tup [i0 vr])/\SameH (zafs xr ts kr dr badr plr) (zafs xr ts kr dr badr plr)))))))):=by kernel_rfl
theorem zaCH (ts:List AV)(k d:Int)(xs:List AV)(ka da:Int)(xsa:List AV)(bada pla:Int)(va vr:Int)(kr dr:Int)(xr:List AV)(badr plr:Int):gFE (Orc.z) ts k d xs ka da xsa bada pla va vr kr dr xr badr plr=(let z1:=[eR 1048577 [0,0] 5 xsa,eF 1048578 [1,0] 6 [AV.agg [L3 ts,i0 ka,i0 da,AV.slc 1048577 [0,0] 0 (List.length xsa),i0 bada,i0 pla]]];let z2:=AV.ptr 1048578 [1,0] 0 0;U1 [z2] (zaij xs ts k d) (U1 [z2,i0 va] z1 (Wk (i0 vr) (i0 vr)/\SameH (zafs xr ts kr dr badr plr) (zafs xr ts kr dr badr plr)))):=by kernel_rfl
end Go.Proofs.YtpofhijgccocpaaGreatDoor
end
section
namespace Go.Proofs.YtpofhijgccocpaaGreatDoor
open Go.AS Go.TP
noncomputable section
def zaGl (os:Orc)(ts:List AV)(k d:Int)(xs:List AV)(bad' pl':Int):Prop :=
 runF (XQn ((XB.add fXIs (Sp.con [spI 2 true (xHp 0 ts k d xs 0 0)])).add zaar (Sp.con [spD false (xHp 0 ts k d xs 0 0) (xHp 0 ts k d xs bad' pl')])) zaac [38,39,49,51,117,119]) 14 zaac (fn zaac) (code zaac) os 0 [] [xArg] (xHp 0 ts k d xs 0 0) ⟨i0 0,(xHp 0 ts k d xs bad' pl'),[1048577,1048578]⟩
def zaGk (os:Orc)(ts:List AV)(k d:Int)(xs:List AV)(k1 k2 d2:Int)(xs2:List AV)(bad2 pl2 v:Int)(k3 bad3 pl3:Int)(b:Bool):Prop :=
 runF (XQn ((((XB.add fXIs (Sp.con [spI 2 true (xHp 0 ts k d xs 0 0)])).add zaar (Sp.con [spD true (xHp 0 ts k d xs 0 0) (xHp 0 ts k1 (d+1) xs 0 0)])).add zaap (Sp.con [spV v (xHp 0 ts k1 (d+1) xs 0 0) (xHp 1 ts k2 d2 xs2 bad2 pl2)])).add zabt (Sp.con [spX [i0 3] (xHp 0 ts k2 d2 xs2 bad2 pl2) ⟨b0 b,(xHp 0 ts k3 d2 xs2 bad3 pl3),[1048578]⟩])) zaac [38,39,49,51,117,119]) 14 zaac (fn zaac) (code zaac) os 0 [1048577] [xArg] (xHp 0 ts k d xs 0 0) ⟨i0 v,(xHp 1 ts k3 (d2-1) xs2 bad3 pl3),[1048577,1048578]⟩
def gAtX (os:Orc)(ts:List AV)(k d:Int)(xs:List AV)(bad' pl':Int):Prop :=
 runF (XQn ((XB.add fXIs (Sp.con [spI 2 false (xHp 0 ts k d xs 0 0),spI 1 false (xHp 0 ts k d xs 0 0)])).add zabG (Sp.con [spX [i0 15] (xHp 0 ts k d xs 0 0) ⟨i0 0,(xHp 0 ts k d xs bad' pl'),[1048578]⟩])) zaac [38,39,49,51,117,119]) 14 zaac (fn zaac) (code zaac) os 0 [] [xArg] (xHp 0 ts k d xs 0 0) ⟨i0 0,(xHp 0 ts k d xs bad' pl'),[1048577,1048578]⟩
def zaGj (os:Orc)(ts:List AV)(k d:Int)(xs:List AV)(bad' pl':Int)(t:ByteArray):Prop :=
 runF (XQn (((XB.add fXIs (Sp.con [spI 2 false (xHp 0 ts k d xs 0 0),spI 1 true (xHp 0 ts k d xs 0 0)])).add zaaH (Sp.con [.pure Unit (fun _=>True) (fun _=>[s0 t]) (fun _=>b0 false)])).add zabG (Sp.con [spX [i0 15] (xHp 0 ts k d xs 0 0) ⟨i0 0,(xHp 0 ts k d xs bad' pl'),[1048578]⟩])) zaac [38,39,49,51,117,119]) 14 zaac (fn zaac) (code zaac) os 0 [] [xArg] (xHp 0 ts k d xs 0 0) ⟨i0 0,(xHp 0 ts k d xs bad' pl'),[1048577,1048578]⟩
def zaGi (os:Orc)(ts:List AV)(k d:Int)(xs:List AV)(a:Int)(t:ByteArray):Prop :=
 runF (XQn (((XB.add fXIs (Sp.con [spI 2 false (xHp 0 ts k d xs 0 0),spI 1 true (xHp 0 ts k d xs 0 0)])).add zaaH (Sp.con [.pure Unit (fun _=>True) (fun _=>[s0 t]) (fun _=>b0 true)])).add zabN (Sp.con [spA (rgV 1 a 0 t []) xs.length (xHp 0 ts (k+1) d xs 0 0) (xHp 1 ts (k+1) d (xs++[(rgV 1 a 0 t [])]) 0 0)])) zaac [38,39,49,51,117,119]) 14 zaac (fn zaac) (code zaac) os 0 [1048577] [xArg] (xHp 0 ts k d xs 0 0) ⟨i0 xs.length,xHp 1 ts (k+1) d (xs++[(rgV 1 a 0 t [])]) 0 0,[1048577,1048578]⟩
def zaGp (os:Orc)(ts:List AV)(k d:Int)(xs:List AV)(bad' pl':Int)(t:ByteArray):Prop :=
 runF (XQn (((XB.add fXIs (Sp.con [spI 2 false (xHp 0 ts k d xs 0 0),spI 1 true (xHp 0 ts k d xs 0 0)])).add zabe (Sp.con [.pure Unit (fun _=>True) (fun _=>[s0 t]) (fun _ => .tup [i0 (-1),b0 false])])).add zabG (Sp.con [spX [i0 15] (xHp 0 ts k d xs 0 0) ⟨i0 0,(xHp 0 ts k d xs bad' pl'),[1048578]⟩])) zaac [38,39,49,51,117,119]) 14 zaac (fn zaac) (code zaac) os 0 [] [xArg] (xHp 0 ts k d xs 0 0) ⟨i0 0,(xHp 0 ts k d xs bad' pl'),[1048577,1048578]⟩
def zaGm (os:Orc)(ts:List AV)(k d:Int)(xs:List AV)(bad' pl':Int)(t:ByteArray)(n:Int)(b:Bool):Prop :=
 runF (XQn (((XB.add fXIs (Sp.con [spI 2 false (xHp 0 ts k d xs 0 0),spI 1 true (xHp 0 ts k d xs 0 0)])).add zabe (Sp.con [.pure Unit (fun _=>True) (fun _=>[s0 t]) (fun _ => .tup [i0 n,b0 b])])).add zaar (Sp.con [spD false (xHp 0 ts (k+1) d xs 0 0) (xHp 0 ts (k+1) d xs bad' pl')])) zaac [38,39,49,51,117,119]) 14 zaac (fn zaac) (code zaac) os 0 [] [xArg] (xHp 0 ts k d xs 0 0) ⟨i0 0,(xHp 0 ts (k+1) d xs bad' pl'),[1048577,1048578]⟩
def zaGo (os:Orc)(ts:List AV)(k d:Int)(xs:List AV)(t:ByteArray)(a k1 k3 bad3 pl3:Int)(b:Bool):Prop :=
 runF (XQn (((((XB.add fXIs (Sp.con [spI 2 false (xHp 0 ts k d xs 0 0),spI 1 true (xHp 0 ts k d xs 0 0)])).add zabe (Sp.con [.pure Unit (fun _=>True) (fun _=>[s0 t]) (fun _ => .tup [i0 0,b0 false])])).add zaar (Sp.con [spD true (xHp 0 ts (k+1) d xs 0 0) (xHp 0 ts k1 (d+1) xs 0 0)])).add zabt (Sp.con [spX [i0 3] (xHp 0 ts k1 (d+1) xs 0 0) ⟨b0 b,(xHp 0 ts k3 (d+1) xs bad3 pl3),[1048578]⟩])).add zabN (Sp.con [spA (rgV 10 a 0 t []) xs.length (xHp 0 ts k3 (d+1-1) xs bad3 pl3) (xHp 1 ts k3 (d+1-1) (xs++[(rgV 10 a 0 t [])]) bad3 pl3)])) zaac [38,39,49,51,117,119]) 14 zaac (fn zaac) (code zaac) os 0 [1048577] [xArg] (xHp 0 ts k d xs 0 0) ⟨i0 xs.length,xHp 1 ts k3 (d+1-1) (xs++[(rgV 10 a 0 t [])]) bad3 pl3,[1048577,1048578]⟩
def zaGn (os:Orc)(ts:List AV)(k d:Int)(xs:List AV)(t:ByteArray)(a:Int)(k1 k2 d2:Int)(xs2:List AV)(bad2 pl2 v:Int)(k3 bad3 pl3:Int)(b:Bool):Prop :=
 runF (XQn ((((((XB.add fXIs (Sp.con [spI 2 false (xHp 0 ts k d xs 0 0),spI 1 true (xHp 0 ts k d xs 0 0)])).add zabe (Sp.con [.pure Unit (fun _=>True) (fun _=>[s0 t]) (fun _ => .tup [i0 1,b0 false])])).add zaar (Sp.con [spD true (xHp 0 ts (k+1) d xs 0 0) (xHp 0 ts k1 (d+1) xs 0 0)])).add zaap (Sp.con [spV v (xHp 0 ts k1 (d+1) xs 0 0) (xHp 1 ts k2 d2 xs2 bad2 pl2)])).add zabt (Sp.con [spX [i0 3] (xHp 0 ts k2 d2 xs2 bad2 pl2) ⟨b0 b,(xHp 0 ts k3 d2 xs2 bad3 pl3),[1048578]⟩])).add zabN (Sp.con [spA (rgV 10 a 0 t [i0 v]) xs2.length (xHp 0 ts k3 (d2-1) xs2 bad3 pl3) (xHp 1 ts k3 (d2-1) (xs2++[(rgV 10 a 0 t [i0 v])]) bad3 pl3)])) zaac [38,39,49,51,117,119]) 14 zaac (fn zaac) (code zaac) os 0 [1048577] [xArg] (xHp 0 ts k d xs 0 0) ⟨i0 xs2.length,xHp 1 ts k3 (d2-1) (xs2++[(rgV 10 a 0 t [i0 v])]) bad3 pl3,[1048577,1048578]⟩
def zaAf (os:Orc)(ts:List AV)(k d:Int)(xs:List AV)(t:ByteArray)(a:Int)(k1 k2 d2:Int)(xs2:List AV)(bad2 pl2 v:Int)(k3 bad3 pl3:Int)(k4 bad4 pl4:Int)(b:Bool):Prop :=
 runF (XQn ((((((XB.add fXIs (Sp.con [spI 2 false (xHp 0 ts k d xs 0 0),spI 1 true (xHp 0 ts k d xs 0 0)])).add zabe (Sp.con [.pure Unit (fun _=>True) (fun _=>[s0 t]) (fun _ => .tup [i0 1,b0 true])])).add zaar (Sp.con [spD true (xHp 0 ts (k+1) d xs 0 0) (xHp 0 ts k1 (d+1) xs 0 0)])).add zaap (Sp.con [spV v (xHp 0 ts k1 (d+1) xs 0 0) (xHp 1 ts k2 d2 xs2 bad2 pl2)])).add zabt (Sp.con [spX [i0 4] (xHp 0 ts k2 d2 xs2 bad2 pl2) ⟨b0 false,(xHp 0 ts k4 d2 xs2 bad4 pl4),[1048578]⟩,spX [i0 3] (xHp 0 ts k4 d2 xs2 bad4 pl4) ⟨b0 b,(xHp 0 ts k3 d2 xs2 bad3 pl3),[1048578]⟩])).add zabN (Sp.con [spA (rgV 10 a 0 t [i0 v]) xs2.length (xHp 0 ts k3 (d2-1) xs2 bad3 pl3) (xHp 1 ts k3 (d2-1) (xs2++[(rgV 10 a 0 t [i0 v])]) bad3 pl3)])) zaac [38,39,49,51,117,119]) 14 zaac (fn zaac) (code zaac) os 0 [1048577] [xArg] (xHp 0 ts k d xs 0 0) ⟨i0 xs2.length,xHp 1 ts k3 (d2-1) (xs2++[(rgV 10 a 0 t [i0 v])]) bad3 pl3,[1048577,1048578]⟩
def zaAh (os:Orc)(ts:List AV)(k d:Int)(xs:List AV)(t tn:ByteArray)(a m:Int)(k1 k2 d2:Int)(xs2:List AV)(bad2 pl2 v:Int)(k3 bad3 pl3:Int)(k4 bad' pl':Int):Prop :=
 runF (XQn (((((((XB.add fXIs (Sp.con [spI 2 false (xHp 0 ts k d xs 0 0),spI 1 true (xHp 0 ts k d xs 0 0),spI 1 false (xHp 0 ts k4 d2 xs2 0 0)])).add zabe (Sp.con [.pure Unit (fun _=>True) (fun _=>[s0 t]) (fun _ => .tup [i0 1,b0 true])])).add zaar (Sp.con [spD true (xHp 0 ts (k+1) d xs 0 0) (xHp 0 ts k1 (d+1) xs 0 0)])).add zaap (Sp.con [spV v (xHp 0 ts k1 (d+1) xs 0 0) (xHp 1 ts k2 d2 xs2 bad2 pl2)])).add zabt (Sp.con [spX [i0 4] (xHp 0 ts k2 d2 xs2 bad2 pl2) ⟨b0 true,(xHp 0 ts k4 d2 xs2 0 0),[1048578]⟩])).add zaae (Sp.con [.pure Unit (fun _=>True) (fun _=>[s0 tn]) (fun _=>i0 m)])).add zabG (Sp.con [spX [i0 15] (xHp 0 ts k4 d2 xs2 0 0) ⟨i0 0,(xHp 0 ts k4 d2 xs2 bad' pl'),[1048578]⟩])) zaac [38,39,49,51,117,119]) 14 zaac (fn zaac) (code zaac) os 0 [1048577] [xArg] (xHp 0 ts k d xs 0 0) ⟨i0 0,(xHp 1 ts k4 d2 xs2 bad' pl'),[1048577,1048578]⟩
def zaAg (os:Orc)(ts:List AV)(k d:Int)(xs:List AV)(t tn:ByteArray)(a m:Int)(k1 k2 d2:Int)(xs2:List AV)(bad2 pl2 v:Int)(k3 bad3 pl3:Int)(k4 bad' pl':Int):Prop :=
 runF (XQn (((((((XB.add fXIs (Sp.con [spI 2 false (xHp 0 ts k d xs 0 0),spI 1 true (xHp 0 ts k d xs 0 0),spI 1 true (xHp 0 ts k4 d2 xs2 0 0)])).add zabe (Sp.con [.pure Unit (fun _=>True) (fun _=>[s0 t]) (fun _ => .tup [i0 1,b0 true])])).add zaar (Sp.con [spD true (xHp 0 ts (k+1) d xs 0 0) (xHp 0 ts k1 (d+1) xs 0 0)])).add zaap (Sp.con [spV v (xHp 0 ts k1 (d+1) xs 0 0) (xHp 1 ts k2 d2 xs2 bad2 pl2)])).add zabt (Sp.con [spX [i0 4] (xHp 0 ts k2 d2 xs2 bad2 pl2) ⟨b0 true,(xHp 0 ts k4 d2 xs2 0 0),[1048578]⟩])).add zaae (Sp.con [.pure Unit (fun _=>True) (fun _=>[s0 tn]) (fun _=>i0 m)])).add zabG (Sp.con [spX [i0 15] (xHp 0 ts k4 d2 xs2 0 0) ⟨i0 0,(xHp 0 ts k4 d2 xs2 bad' pl'),[1048578]⟩])) zaac [38,39,49,51,117,119]) 14 zaac (fn zaac) (code zaac) os 0 [1048577] [xArg] (xHp 0 ts k d xs 0 0) ⟨i0 0,(xHp 1 ts k4 d2 xs2 bad' pl'),[1048577,1048578]⟩
def zaAe (os:Orc)(ts:List AV)(k d:Int)(xs:List AV)(t tn:ByteArray)(a m:Int)(k1 k2 d2:Int)(xs2:List AV)(bad2 pl2 v:Int)(k3 bad3 pl3:Int)(k4:Int)(b:Bool):Prop :=
 runF (XQn (((((((XB.add fXIs (Sp.con [spI 2 false (xHp 0 ts k d xs 0 0),spI 1 true (xHp 0 ts k d xs 0 0),spI 1 true (xHp 0 ts k4 d2 xs2 0 0)])).add zabe (Sp.con [.pure Unit (fun _=>True) (fun _=>[s0 t]) (fun _ => .tup [i0 1,b0 true])])).add zaar (Sp.con [spD true (xHp 0 ts (k+1) d xs 0 0) (xHp 0 ts k1 (d+1) xs 0 0)])).add zaap (Sp.con [spV v (xHp 0 ts k1 (d+1) xs 0 0) (xHp 1 ts k2 d2 xs2 bad2 pl2)])).add zabt (Sp.con [spX [i0 4] (xHp 0 ts k2 d2 xs2 bad2 pl2) ⟨b0 true,(xHp 0 ts k4 d2 xs2 0 0),[1048578]⟩,spX [i0 3] (xHp 0 ts (k4+1) d2 xs2 0 0) ⟨b0 b,(xHp 0 ts k3 d2 xs2 bad3 pl3),[1048578]⟩])).add zaae (Sp.con [.pure Unit (fun _=>True) (fun _=>[s0 tn]) (fun _=>i0 m)])).add zabN (Sp.con [spA (rgV 10 a m t [i0 v]) xs2.length (xHp 0 ts k3 (d2-1) xs2 bad3 pl3) (xHp 1 ts k3 (d2-1) (xs2++[(rgV 10 a m t [i0 v])]) bad3 pl3)])) zaac [38,39,49,51,117,119]) 14 zaac (fn zaac) (code zaac) os 0 [1048577] [xArg] (xHp 0 ts k d xs 0 0) ⟨i0 xs2.length,xHp 1 ts k3 (d2-1) (xs2++[(rgV 10 a m t [i0 v])]) bad3 pl3,[1048577,1048578]⟩
end
end Go.Proofs.YtpofhijgccocpaaGreatDoor
end
