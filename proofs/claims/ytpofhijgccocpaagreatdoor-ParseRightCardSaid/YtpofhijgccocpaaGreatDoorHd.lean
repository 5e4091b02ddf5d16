/- Parts of the proof of ParseRight. -/
import Derived.Test.YtpofhijgccocpaaGreatDoorHc
import Derived.Test.YtpofhijgccocpaaGreatDoorHb
import Derived.Test.YtpofhijgccocpaaGreatDoorASvar
section
namespace Go.Proofs.YtpofhijgccocpaaGreatDoor
open Go.AS Go.TP
noncomputable section
theorem andD {a b:Bool}(h:a=true)(k:b=true):(a&&b)=true:=by rw [h,k]; rfl
structure PrH (l:List RN) (a:Int) (x0:RN):Prop where
 pos:0<l.length
 le:l.length<=1000000
 at_:l[(a % (l.length:Int)).toNat]?=some x0
abbrev prL (l:List RN)(a:Int)(x:RN):List AV:=(l.set (a % (l.length:Int)).toNat x).map xE
theorem zaxQ (x:RN):zaak (Cx.B (cxV XB 12 zaau)) shN 33 (xE x)=true:=by kernel_rfl
theorem zaAj (b:Int):zaak (Cx.B (cxV XB 12 zaau)) shN 3 (i0 b)=true:=by kernel_rfl
section
variable {l:List RN} {a:Int} {x0:RN} (H:PrH l a x0)
include H
theorem PrH.e:(l.map xE).getD (0+(a % ((l.map xE).length:Int)).toNat) (AV.lit (Value.tuple ⟨[]⟩))=xE x0:=by
 rw [List.length_map,Nat.zero_add,List.getD_eq_getElem?_getD,List.getElem?_map,H.at_]; rfl
theorem PrH.m1:0<=a % ((l.map xE).length:Int)/\a % ((l.map xE).length:Int)<((l.map xE).length:Int):=by
 have:=H.pos
 rw [List.length_map]
 exact ⟨Int.emod_nonneg _ (by omega),Int.emod_lt_of_pos _ (by omega)⟩
theorem PrH.pk:(0:Int)<((l.map xE).length:Int)/\((l.map xE).length:Int)<=1000000:=by
 have:=H.pos; have:=H.le; rw [List.length_map]; omega
theorem PrH.ln:decide ((l.map xE).length*64<=140737488355328/\(l.map xE).length<=1152921504606846976)=true:=by
 have:=H.le
 rw [List.length_map]
 exact decide_eq_true ⟨by omega,by omega⟩
theorem PrH.c1:(decide ((0:Int)<=a % ((l.map xE).length:Int)/\a % ((l.map xE).length:Int)<((l.map xE).length:Int))&&(true&&Nat.beq 5 5))=true:=andD (decide_eq_true H.m1) rfl
theorem PrH.lt:0+(a % ((l.map xE).length:Int)).toNat+1<=(l.map xE).length:=by have:=H.m1; omega
theorem PrH.c2 (B:Tb)(hB:B=Cx.B (cxV XB 12 zaau)):(true&&(Nat.ble (0+(a % ((l.map xE).length:Int)).toNat+1) (l.map xE).length&&zaak B shN 33 ((l.map xE).getD (0+(a % ((l.map xE).length:Int)).toNat) (AV.lit (Value.tuple ⟨[]⟩)))))=true:=by
 subst hB; rw [H.e]; exact andD rfl (andD (Nat.ble_eq_true_of_le H.lt) (zaxQ x0))
theorem PrH.c3 (B:Tb)(C:Bool)(hB:B=Cx.B (cxV XB 12 zaau))(hC:C=true):(true&&(Nat.ble (0+(a % ((l.map xE).length:Int)).toNat+1) (l.map xE).length&&(zaak B shN 33 ((l.map xE).getD (0+(a % ((l.map xE).length:Int)).toNat) (AV.lit (Value.tuple ⟨[]⟩)))&&C)))=true:=by
 subst hB; rw [H.e]; exact andD rfl (andD (Nat.ble_eq_true_of_le H.lt) (andD (zaxQ x0) hC))
theorem PrH.w0:Wk (AV.lit (Value.int IntKind.i64 (intA (nthA 0 ((l.map xE).getD (0+(a % ((l.map xE).length:Int)).toNat) (AV.lit (Value.tuple ⟨[]⟩))))))) (i0 x0.kind):=by rw [H.e]; exact .refl _
theorem PrH.w1:Wk (AV.lit (Value.int IntKind.i64 (intA (nthA 1 ((l.map xE).getD (0+(a % ((l.map xE).length:Int)).toNat) (AV.lit (Value.tuple ⟨[]⟩))))))) (i0 x0.at_):=by rw [H.e]; exact .refl _
theorem PrH.w2:Wk (AV.lit (Value.int IntKind.i64 (intA (nthA 2 ((l.map xE).getD (0+(a % ((l.map xE).length:Int)).toNat) (AV.lit (Value.tuple ⟨[]⟩))))))) (i0 x0.n):=by rw [H.e]; exact .refl _
theorem PrH.w3:Wk (AV.lit (Value.string (strA (nthA 3 ((l.map xE).getD (0+(a % ((l.map xE).length:Int)).toNat) (AV.lit (Value.tuple ⟨[]⟩))))))) (s0 x0.text):=by rw [H.e]; exact .refl _
theorem PrH.el:elsA (nthA 4 ((l.map xE).getD (0+(a % ((l.map xE).length:Int)).toNat) (AV.lit (Value.tuple ⟨[]⟩))))=x0.kids.map fun j:Nat=>i0 (j:Int):=by rw [H.e]; rfl
theorem PrH.w4:Wk (AV.lst false 1 (elsA (nthA 4 ((l.map xE).getD (0+(a % ((l.map xE).length:Int)).toNat) (AV.lit (Value.tuple ⟨[]⟩)))))) (AV.lst false 1 (x0.kids.map fun j:Nat=>i0 (j:Int))):=by rw [H.el]; exact .refl _
theorem PrH.n5 (hk:x0.kids=[]):decide (((elsA (nthA 4 ((l.map xE).getD (0+(a % ((l.map xE).length:Int)).toNat) (AV.lit (Value.tuple ⟨[]⟩))))).length:Int)>0)=false:=by rw [H.el,hk]; rfl
section
variable {j:Nat} {js:List Nat} (hk:x0.kids=j::js) (h2:js.length<=1)
include hk h2
theorem PrH.n1:decide (((elsA (nthA 4 ((l.map xE).getD (0+(a % ((l.map xE).length:Int)).toNat) (AV.lit (Value.tuple ⟨[]⟩))))).length:Int)>0)=true:=by rw [H.el,hk]; exact decide_eq_true (by rw [List.length_map]; show ((js.length+1:Nat):Int)>0; omega)
theorem PrH.n2:decide ((elsA (nthA 4 ((l.map xE).getD (0+(a % ((l.map xE).length:Int)).toNat) (AV.lit (Value.tuple ⟨[]⟩))))).length*8<=140737488355328/\(elsA (nthA 4 ((l.map xE).getD (0+(a % ((l.map xE).length:Int)).toNat) (AV.lit (Value.tuple ⟨[]⟩))))).length<=1152921504606846976)=true:=by rw [H.el,hk,List.length_map]; exact decide_eq_true (by show (js.length+1)*8<=_/\js.length+1<=_; omega)
theorem PrH.n3 (B:Tb)(hB:B=Cx.B (cxV XB 12 zaau)):(decide ((0:Int)<=(0:Int)/\(0:Int)<((elsA (nthA 4 ((l.map xE).getD (0+(a % ((l.map xE).length:Int)).toNat) (AV.lit (Value.tuple ⟨[]⟩))))).length:Int))&&(Nat.beq 1 1&&(zaak B shN 3 ((elsA (nthA 4 ((l.map xE).getD (0+(a % ((l.map xE).length:Int)).toNat) (AV.lit (Value.tuple ⟨[]⟩))))).getD 0 (AV.lit (Value.tuple ⟨[]⟩)))&&(false||true))))=true:=by
 subst hB; rw [H.el,hk]; exact andD (decide_eq_true ⟨Int.le_refl _,by rw [List.length_map]; show (0:Int)<((js.length+1:Nat):Int); omega⟩) (andD rfl (andD (zaAj j) rfl))
omit h2 in
theorem PrH.ap:List.take (elsA (nthA 4 ((l.map xE).getD (0+(a % ((l.map xE).length:Int)).toNat) (AV.lit (Value.tuple ⟨[]⟩))))).length (List.drop 0 (elsA (nthA 4 ((l.map xE).getD (0+(a % ((l.map xE).length:Int)).toNat) (AV.lit (Value.tuple ⟨[]⟩))))))++[AV.lit (Value.int IntKind.i64 (intA ((elsA (nthA 4 ((l.map xE).getD (0+(a % ((l.map xE).length:Int)).toNat) (AV.lit (Value.tuple ⟨[]⟩))))).getD 0 (AV.lit (Value.tuple ⟨[]⟩)))))]=(j::js++[j]).map fun j:Nat=>i0 (j:Int):=by
 rw [H.el,hk,List.drop_zero,List.take_length,List.map_append]; rfl
theorem PrH.n4:((true&&(Nat.beq 1 1&&Nat.ble (0+(elsA (nthA 4 ((l.map xE).getD (0+(a % ((l.map xE).length:Int)).toNat) (AV.lit (Value.tuple ⟨[]⟩))))).length) (elsA (nthA 4 ((l.map xE).getD (0+(a % ((l.map xE).length:Int)).toNat) (AV.lit (Value.tuple ⟨[]⟩))))).length))&&(Nat.beq 1 1&&decide ((List.take (elsA (nthA 4 ((l.map xE).getD (0+(a % ((l.map xE).length:Int)).toNat) (AV.lit (Value.tuple ⟨[]⟩))))).length (List.drop 0 (elsA (nthA 4 ((l.map xE).getD (0+(a % ((l.map xE).length:Int)).toNat) (AV.lit (Value.tuple ⟨[]⟩))))))++[AV.lit (Value.int IntKind.i64 (intA ((elsA (nthA 4 ((l.map xE).getD (0+(a % ((l.map xE).length:Int)).toNat) (AV.lit (Value.tuple ⟨[]⟩))))).getD 0 (AV.lit (Value.tuple ⟨[]⟩)))))]).length*8<=140737488355328/\(List.take (elsA (nthA 4 ((l.map xE).getD (0+(a % ((l.map xE).length:Int)).toNat) (AV.lit (Value.tuple ⟨[]⟩))))).length (List.drop 0 (elsA (nthA 4 ((l.map xE).getD (0+(a % ((l.map xE).length:Int)).toNat) (AV.lit (Value.tuple ⟨[]⟩))))))++[AV.lit (Value.int IntKind.i64 (intA ((elsA (nthA 4 ((l.map xE).getD (0+(a % ((l.map xE).length:Int)).toNat) (AV.lit (Value.tuple ⟨[]⟩))))).getD 0 (AV.lit (Value.tuple ⟨[]⟩)))))]).length<=1152921504606846976)))=true:=by
 rw [H.ap hk]; exact andD (andD rfl (andD rfl (Nat.ble_eq_true_of_le (Nat.le_of_eq (Nat.zero_add _))))) (andD rfl (decide_eq_true (by rw [List.length_map,List.length_append]; show (js.length+1+1)*8<=_/\js.length+1+1<=_; omega)))
omit h2 in
theorem PrH.w5:Wk (AV.lst false 1 (List.take (List.take (elsA (nthA 4 ((l.map xE).getD (0+(a % ((l.map xE).length:Int)).toNat) (AV.lit (Value.tuple ⟨[]⟩))))).length (List.drop 0 (elsA (nthA 4 ((l.map xE).getD (0+(a % ((l.map xE).length:Int)).toNat) (AV.lit (Value.tuple ⟨[]⟩))))))++[AV.lit (Value.int IntKind.i64 (intA ((elsA (nthA 4 ((l.map xE).getD (0+(a % ((l.map xE).length:Int)).toNat) (AV.lit (Value.tuple ⟨[]⟩))))).getD 0 (AV.lit (Value.tuple ⟨[]⟩)))))]).length (List.drop 0 (List.take (elsA (nthA 4 ((l.map xE).getD (0+(a % ((l.map xE).length:Int)).toNat) (AV.lit (Value.tuple ⟨[]⟩))))).length (List.drop 0 (elsA (nthA 4 ((l.map xE).getD (0+(a % ((l.map xE).length:Int)).toNat) (AV.lit (Value.tuple ⟨[]⟩))))))++[AV.lit (Value.int IntKind.i64 (intA ((elsA (nthA 4 ((l.map xE).getD (0+(a % ((l.map xE).length:Int)).toNat) (AV.lit (Value.tuple ⟨[]⟩))))).getD 0 (AV.lit (Value.tuple ⟨[]⟩)))))])))) (AV.lst false 1 ((j::js++[j]).map fun j:Nat=>i0 (j:Int))):=by
 rw [H.ap hk,List.drop_zero,List.take_length]; exact .refl _
end
omit H in
theorem zaq9 {l:List RN}{k:Nat}{x:RN}{z:AV}(h:Wk z (xE x)):Wkl ((l.map xE).set k z) ((l.set k x).map xE):=by
 induction l generalizing k with
 | nil=>exact .nil
 | cons y r ih =>
  cases k with
  | zero=>exact .cons h (.refl _)
  | succ k=>exact .cons (.refl _) ih
omit H in
theorem PrH.s (l:List RN)(a:Int)(x:RN)(ys:List AV):Wks (AV.agg [AV.slc 1048577 [0,0] 0 (l.map xE).length]::ys) (AV.agg [AV.slc 1048577 [0,0] 0 (prL l a x).length]::ys):=by
 rw [List.length_map,List.length_map,List.length_set]; exact .refl _
omit H in
theorem PrH.hw {x:RN}{z:AV}(h:Wk z (xE x)):HW (hpL [(1048577,{ id:=[0,0],obj:=AObj.row true 5 ((l.map xE).set (0+(a % ((l.map xE).length:Int)).toNat) z) })]) (hpL [(1048577,{ id:=[0,0],obj:=AObj.row true 5 (prL l a x) })]) [1048577]:=by
 rw [List.length_map,Nat.zero_add]
 exact .row (.head _) (zaq9 h) (.nil _)
end
def zaq8 (k:Int):ByteArray:=List.getD (zaaQ [Value.string ⟨⟨[]⟩⟩,Value.string wAll,Value.string zaaY,Value.string ⟨⟨[122,122]⟩⟩,Value.string ⟨⟨[97,98]⟩⟩]) k.toNat ByteArray.empty
theorem zaj4 (k:Int):(zaq8 k).size<=600:=by
 unfold zaq8
 generalize k.toNat=j
 by_cases h:j<5
 · revert j; decide
 · rw [List.getD_eq_getElem?_getD,List.getElem?_eq_none (by show 5<=j; omega)]; exact Nat.zero_le _
theorem prNN (r:Bool):(!(r==r))=false:=by cases r <;> rfl
theorem prT {r:Bool}(h:(!r)=false):r=true:=by cases r with | true=>rfl | false=>cases h
theorem prE (x:ByteArray):AV.lit (Value.bool (x.toList==x.toList))=AV.lit (Value.bool true):=by rw [beq_self_eq_true]
theorem prZ {r:Bool}{x:ByteArray}(hz:r=false->x=ByteArray.empty)(h:(!r)=true):AV.lit (Value.bool (x.toList==ByteArray.toList ⟨⟨[]⟩⟩))=AV.lit (Value.bool true):=by
 cases r with
 | true=>cases h
 | false=>rw [hz rfl]; exact prE ⟨⟨[]⟩⟩
set_option maxRecDepth 100000 in
theorem zaw4 {l:List RN}{a:Int}{x0:RN}(H:PrH l a x0)(xs:List AV)(h b:Int)(s:ByteArray)(q0:(h % 7==0)=true)(k a1 m:Int)(w:ByteArray)(vs:List AV){r:Bool}{x:ByteArray}(hz:r=false->x=ByteArray.empty):gY0 ogY0 xs a h b s (l.map xE) (prL l a { x0 with kind:=b % 13-1 }) k a1 m w vs r x:=by
 rw [zaw3]
 exact ⟨(),⟨trivial, .refl _,rfl⟩,(),⟨trivial, .refl _,rfl⟩,rfl,(a,(l.map xE).length),⟨H.pk, .refl _,rfl⟩,H.ln,H.c1,H.c2 _ rfl,(h,7),⟨⟨(by decide:(0:Int)<7),(by decide:(7:Int)<=1000000)⟩, .refl _,rfl⟩,q0,(b,13),⟨⟨(by decide:(0:Int)<13),(by decide:(13:Int)<=1000000)⟩, .refl _,rfl⟩,zaao (by have:=Int.emod_nonneg b (by decide:(13:Int)≠0); show _<=b % 13-1; omega) (by have:=Int.emod_lt_of_pos b (by decide:(0:Int)<13); show b % 13-1<_; omega),H.c1,H.c3 _ _ rfl rfl,(),⟨trivial,PrH.s _ _ _ _,PrH.hw (x:={ x0 with kind:=b % 13-1 }) (.agg (.cons (.refl _) (.cons H.w1 (.cons H.w2 (.cons H.w3 (.cons H.w4 .nil))))))⟩,(),⟨trivial,PrH.s _ _ _ _, .refl _ _⟩,(),⟨trivial,PrH.s _ _ _ _, .refl _ _⟩,(),⟨trivial,PrH.s _ _ _ _, .refl _ _⟩,(),⟨trivial, .refl _,rfl⟩,prNN r,fun g=>⟨(),⟨trivial, .refl _,rfl⟩,rfl,rfl,(),⟨trivial, .refl _,rfl⟩,rfl,prZ hz g⟩,fun g=>⟨(),⟨trivial, .refl _,rfl⟩,rfl,rfl,(),⟨trivial, .refl _,rfl⟩,rfl,rfl,rfl,(),⟨trivial,PrH.s _ _ _ _, .refl _ _⟩,rfl,(),⟨prT g,PrH.s _ _ _ _, .refl _ _⟩,rfl,prE x⟩⟩
set_option maxRecDepth 100000 in
theorem zaw2 {l:List RN}{a:Int}{x0:RN}(H:PrH l a x0)(xs:List AV)(h b:Int)(s:ByteArray)(q0:(h % 7==0)=false)(q1:(h % 7==1)=true)(k a1 m:Int)(w:ByteArray)(vs:List AV){r:Bool}{x:ByteArray}(hz:r=false->x=ByteArray.empty):gY1 ogY1 xs a h b s (l.map xE) (prL l a { x0 with n:=b }) k a1 m w vs r x:=by
 rw [zaw1]
 exact ⟨(),⟨trivial, .refl _,rfl⟩,(),⟨trivial, .refl _,rfl⟩,rfl,(a,(l.map xE).length),⟨H.pk, .refl _,rfl⟩,H.ln,H.c1,H.c2 _ rfl,(h,7),⟨⟨(by decide:(0:Int)<7),(by decide:(7:Int)<=1000000)⟩, .refl _,rfl⟩,q0,q1,H.c1,H.c3 _ _ rfl rfl,(),⟨trivial,PrH.s _ _ _ _,PrH.hw (x:={ x0 with n:=b }) (.agg (.cons H.w0 (.cons H.w1 (.cons (.refl _) (.cons H.w3 (.cons H.w4 .nil))))))⟩,(),⟨trivial,PrH.s _ _ _ _, .refl _ _⟩,(),⟨trivial,PrH.s _ _ _ _, .refl _ _⟩,(),⟨trivial,PrH.s _ _ _ _, .refl _ _⟩,(),⟨trivial, .refl _,rfl⟩,prNN r,fun g=>⟨(),⟨trivial, .refl _,rfl⟩,rfl,rfl,(),⟨trivial, .refl _,rfl⟩,rfl,prZ hz g⟩,fun g=>⟨(),⟨trivial, .refl _,rfl⟩,rfl,rfl,(),⟨trivial, .refl _,rfl⟩,rfl,rfl,rfl,(),⟨trivial,PrH.s _ _ _ _, .refl _ _⟩,rfl,(),⟨prT g,PrH.s _ _ _ _, .refl _ _⟩,rfl,prE x⟩⟩
set_option maxRecDepth 100000 in
theorem zaw0 {l:List RN}{a:Int}{x0:RN}(H:PrH l a x0)(xs:List AV)(h b:Int)(s:ByteArray)(q0:(h % 7==0)=false)(q1:(h % 7==1)=false)(q2:(h % 7==2)=true)(k a1 m:Int)(w:ByteArray)(vs:List AV){r:Bool}{x:ByteArray}(hz:r=false->x=ByteArray.empty):gY2 ogY2 xs a h b s (l.map xE) (prL l a { x0 with text:=zaq8 (b % 5) }) k a1 m w vs r x:=by
 rw [zawZ]
 exact ⟨(),⟨trivial, .refl _,rfl⟩,(),⟨trivial, .refl _,rfl⟩,rfl,(a,(l.map xE).length),⟨H.pk, .refl _,rfl⟩,H.ln,H.c1,H.c2 _ rfl,(h,7),⟨⟨(by decide:(0:Int)<7),(by decide:(7:Int)<=1000000)⟩, .refl _,rfl⟩,q0,q1,q2,(b,5),⟨⟨(by decide:(0:Int)<5),(by decide:(5:Int)<=1000000)⟩, .refl _,rfl⟩,andD (decide_eq_true ⟨Int.emod_nonneg b (show (5:Int)≠0 by decide),Int.emod_lt_of_pos b (show (0:Int)<5 by decide)⟩) rfl,H.c1,H.c3 _ _ rfl rfl,(),⟨trivial,PrH.s _ _ _ _,PrH.hw (x:={ x0 with text:=zaq8 (b % 5) }) (.agg (.cons H.w0 (.cons H.w1 (.cons H.w2 (.cons (.refl _) (.cons H.w4 .nil))))))⟩,(),⟨trivial,PrH.s _ _ _ _, .refl _ _⟩,(),⟨trivial,PrH.s _ _ _ _, .refl _ _⟩,(),⟨trivial,PrH.s _ _ _ _, .refl _ _⟩,(),⟨trivial, .refl _,rfl⟩,prNN r,fun g=>⟨(),⟨trivial, .refl _,rfl⟩,rfl,rfl,(),⟨trivial, .refl _,rfl⟩,rfl,prZ hz g⟩,fun g=>⟨(),⟨trivial, .refl _,rfl⟩,rfl,rfl,(),⟨trivial, .refl _,rfl⟩,rfl,rfl,rfl,(),⟨trivial,PrH.s _ _ _ _, .refl _ _⟩,rfl,(),⟨prT g,PrH.s _ _ _ _, .refl _ _⟩,rfl,prE x⟩⟩
set_option maxRecDepth 100000 in
theorem zawY {l:List RN}{a:Int}{x0:RN}(H:PrH l a x0)(xs:List AV)(h b:Int)(s:ByteArray)(q0:(h % 7==0)=false)(q1:(h % 7==1)=false)(q2:(h % 7==2)=false)(q3:(h % 7==3)=true)(k a1 m:Int)(w:ByteArray)(vs:List AV){r:Bool}{x:ByteArray}(hz:r=false->x=ByteArray.empty):gY3 ogY3 xs a h b s (l.map xE) (prL l a { x0 with kids:=[] }) k a1 m w vs r x:=by
 rw [zawX]
 exact ⟨(),⟨trivial, .refl _,rfl⟩,(),⟨trivial, .refl _,rfl⟩,rfl,(a,(l.map xE).length),⟨H.pk, .refl _,rfl⟩,H.ln,H.c1,H.c2 _ rfl,(h,7),⟨⟨(by decide:(0:Int)<7),(by decide:(7:Int)<=1000000)⟩, .refl _,rfl⟩,q0,q1,q2,q3,H.c1,H.c3 _ _ rfl rfl,(),⟨trivial,PrH.s _ _ _ _,PrH.hw (x:={ x0 with kids:=[] }) (.agg (.cons H.w0 (.cons H.w1 (.cons H.w2 (.cons H.w3 (.cons .nilS .nil))))))⟩,(),⟨trivial,PrH.s _ _ _ _, .refl _ _⟩,(),⟨trivial,PrH.s _ _ _ _, .refl _ _⟩,(),⟨trivial,PrH.s _ _ _ _, .refl _ _⟩,(),⟨trivial, .refl _,rfl⟩,prNN r,fun g=>⟨(),⟨trivial, .refl _,rfl⟩,rfl,rfl,(),⟨trivial, .refl _,rfl⟩,rfl,prZ hz g⟩,fun g=>⟨(),⟨trivial, .refl _,rfl⟩,rfl,rfl,(),⟨trivial, .refl _,rfl⟩,rfl,rfl,rfl,(),⟨trivial,PrH.s _ _ _ _, .refl _ _⟩,rfl,(),⟨prT g,PrH.s _ _ _ _, .refl _ _⟩,rfl,prE x⟩⟩
set_option maxRecDepth 100000 in
theorem zawW {l:List RN}{a:Int}{x0:RN}(H:PrH l a x0)(xs:List AV)(h b:Int)(s:ByteArray)(q0:(h % 7==0)=false)(q1:(h % 7==1)=false)(q2:(h % 7==2)=false)(q3:(h % 7==3)=false)(q4:(h % 7==4)=true){j:Nat}{js:List Nat}(hk:x0.kids=j::js)(hk2:js.length<=1)(k a1 m:Int)(w:ByteArray)(vs:List AV){r:Bool}{x:ByteArray}(hz:r=false->x=ByteArray.empty):gY4 ogY4 xs a h b s (l.map xE) (prL l a { x0 with kids:=j::js++[j] }) k a1 m w vs r x:=by
 rw [zawV]
 exact ⟨(),⟨trivial, .refl _,rfl⟩,(),⟨trivial, .refl _,rfl⟩,rfl,(a,(l.map xE).length),⟨H.pk, .refl _,rfl⟩,H.ln,H.c1,H.c2 _ rfl,(h,7),⟨⟨(by decide:(0:Int)<7),(by decide:(7:Int)<=1000000)⟩, .refl _,rfl⟩,q0,q1,q2,q3,q4,H.n1 hk hk2,H.n2 hk hk2,H.n3 hk hk2 _ rfl,H.n4 hk hk2,Nat.le_of_eq (Nat.zero_add _),H.c1,H.c3 _ _ rfl rfl,(),⟨trivial,PrH.s _ _ _ _,PrH.hw (x:={ x0 with kids:=j::js++[j] }) (.agg (.cons H.w0 (.cons H.w1 (.cons H.w2 (.cons H.w3 (.cons (H.w5 hk) .nil))))))⟩,(),⟨trivial,PrH.s _ _ _ _, .refl _ _⟩,(),⟨trivial,PrH.s _ _ _ _, .refl _ _⟩,(),⟨trivial,PrH.s _ _ _ _, .refl _ _⟩,(),⟨trivial, .refl _,rfl⟩,prNN r,fun g=>⟨(),⟨trivial, .refl _,rfl⟩,rfl,rfl,(),⟨trivial, .refl _,rfl⟩,rfl,prZ hz g⟩,fun g=>⟨(),⟨trivial, .refl _,rfl⟩,rfl,rfl,(),⟨trivial, .refl _,rfl⟩,rfl,rfl,rfl,(),⟨trivial,PrH.s _ _ _ _, .refl _ _⟩,rfl,(),⟨prT g,PrH.s _ _ _ _, .refl _ _⟩,rfl,prE x⟩⟩
set_option maxRecDepth 100000 in
theorem zawU {l:List RN}{a:Int}{x0:RN}(H:PrH l a x0)(xs:List AV)(h b:Int)(s:ByteArray)(q0:(h % 7==0)=false)(q1:(h % 7==1)=false)(q2:(h % 7==2)=false)(q3:(h % 7==3)=false)(q4:(h % 7==4)=true)(hk:x0.kids=[])(k a1 m:Int)(w:ByteArray)(vs:List AV){r:Bool}{x:ByteArray}(hz:r=false->x=ByteArray.empty):gY5 ogY5 xs a h b s (l.map xE) (prL l a x0) k a1 m w vs r x:=by
 rw [zawT]
 exact ⟨(),⟨trivial, .refl _,rfl⟩,(),⟨trivial, .refl _,rfl⟩,rfl,(a,(l.map xE).length),⟨H.pk, .refl _,rfl⟩,H.ln,H.c1,H.c2 _ rfl,(h,7),⟨⟨(by decide:(0:Int)<7),(by decide:(7:Int)<=1000000)⟩, .refl _,rfl⟩,q0,q1,q2,q3,q4,H.n5 hk,H.c1,H.c3 _ _ rfl rfl,(),⟨trivial,PrH.s _ _ _ _,PrH.hw (x:=x0) (.agg (.cons H.w0 (.cons H.w1 (.cons H.w2 (.cons H.w3 (.cons H.w4 .nil))))))⟩,(),⟨trivial,PrH.s _ _ _ _, .refl _ _⟩,(),⟨trivial,PrH.s _ _ _ _, .refl _ _⟩,(),⟨trivial,PrH.s _ _ _ _, .refl _ _⟩,(),⟨trivial, .refl _,rfl⟩,prNN r,fun g=>⟨(),⟨trivial, .refl _,rfl⟩,rfl,rfl,(),⟨trivial, .refl _,rfl⟩,rfl,prZ hz g⟩,fun g=>⟨(),⟨trivial, .refl _,rfl⟩,rfl,rfl,(),⟨trivial, .refl _,rfl⟩,rfl,rfl,rfl,(),⟨trivial,PrH.s _ _ _ _, .refl _ _⟩,rfl,(),⟨prT g,PrH.s _ _ _ _, .refl _ _⟩,rfl,prE x⟩⟩
set_option maxRecDepth 100000 in
theorem zawS {l:List RN}{a:Int}{x0:RN}(H:PrH l a x0)(xs:List AV)(h b:Int)(s:ByteArray)(q0:(h % 7==0)=false)(q1:(h % 7==1)=false)(q2:(h % 7==2)=false)(q3:(h % 7==3)=false)(q4:(h % 7==4)=false)(k a1 m:Int)(w:ByteArray)(vs:List AV){r:Bool}{x:ByteArray}(hz:r=false->x=ByteArray.empty):gY6 ogY6 xs a h b s (l.map xE) (prL l a x0) k a1 m w vs r x:=by
 rw [zawR]
 exact ⟨(),⟨trivial, .refl _,rfl⟩,(),⟨trivial, .refl _,rfl⟩,rfl,(a,(l.map xE).length),⟨H.pk, .refl _,rfl⟩,H.ln,H.c1,H.c2 _ rfl,(h,7),⟨⟨(by decide:(0:Int)<7),(by decide:(7:Int)<=1000000)⟩, .refl _,rfl⟩,q0,q1,q2,q3,q4,H.c1,H.c3 _ _ rfl rfl,(),⟨trivial,PrH.s _ _ _ _,PrH.hw (x:=x0) (.agg (.cons H.w0 (.cons H.w1 (.cons H.w2 (.cons H.w3 (.cons H.w4 .nil))))))⟩,(),⟨trivial,PrH.s _ _ _ _, .refl _ _⟩,(),⟨trivial,PrH.s _ _ _ _, .refl _ _⟩,(),⟨trivial,PrH.s _ _ _ _, .refl _ _⟩,(),⟨trivial, .refl _,rfl⟩,prNN r,fun g=>⟨(),⟨trivial, .refl _,rfl⟩,rfl,rfl,(),⟨trivial, .refl _,rfl⟩,rfl,prZ hz g⟩,fun g=>⟨(),⟨trivial, .refl _,rfl⟩,rfl,rfl,(),⟨trivial, .refl _,rfl⟩,rfl,rfl,rfl,(),⟨trivial,PrH.s _ _ _ _, .refl _ _⟩,rfl,(),⟨prT g,PrH.s _ _ _ _, .refl _ _⟩,rfl,prE x⟩⟩
end
end Go.Proofs.YtpofhijgccocpaaGreatDoor
end
section
namespace Go.Proofs.YtpofhijgccocpaaGreatDoor
open Go.AS Go.TP
noncomputable section
abbrev tErr:Nat:=47
abbrev zaim:Nat:=223
abbrev zawp:Nat:=197
abbrev tU64:Nat:=190
abbrev tInt:Nat:=3
abbrev zaxM:Nat:=22
noncomputable def zaAL:Array (String × TypeId):=match Tryz.prog.underlying tErr with | some (.interface ms)=>ms | _ => #[]
noncomputable def errF:Field:=match Tryz.prog.underlying zaim with | some (.struct fs)=>fs.getD 0 default | _=>default
theorem zaxJ:Tryz.prog.underlying tErr=some (.interface zaAL):=by kernel_rfl
theorem zarc:Tryz.prog.underlying zafF=some (.pointer zaim):=by kernel_rfl
theorem zarb:Tryz.prog.underlying zaim=some (.struct #[errF]):=by kernel_rfl
theorem zard:Tryz.prog.underlying errF.type=some .string:=by kernel_rfl
theorem zass:errF.offset=0:=by kernel_rfl
theorem zavN:Tryz.prog.cellsOf zaim=1:=by kernel_rfl
theorem zavO:Tryz.prog.cellsOf errF.type=1:=by kernel_rfl
theorem zaAa:Tryz.prog.underlying zawp=some (.array 20 tU64):=by kernel_rfl
theorem zaA:Tryz.prog.underlying tU64=some (.int .u64):=by kernel_rfl
theorem zaAM:Tryz.prog.cellsOf tU64=1:=by kernel_rfl
theorem zaAN:Tryz.prog.cellsOf zawp=20:=by kernel_rfl
theorem zara:Tryz.prog.underlying zaxM=some (.slice tInt):=by kernel_rfl
theorem zaAb:Tryz.prog.underlying tInt=some (.int .i64):=by kernel_rfl
theorem zaAO:Tryz.prog.cellsOf tInt=1:=by kernel_rfl
theorem zamB:((List.range Tryz.prog.types.size).all fun u=>!(decide (Tryz.prog.typeName? 3 u=some "*errors.errorString"))||Nat.beq u zafF)=true:=by kernel_rfl
theorem zasw:(Tryz.prog.types.toList.all fun i=>!(decide (i.str = "errors.errorString"))||match i.desc with | .bool | .int _ | .float _ | .string=>false | _=>true)=true:=by kernel_rfl
theorem zaiI (u:TypeId)(h:Tryz.prog.typeName? 3 u=some "*errors.errorString"):u=zafF:=zand zamB zasw u h
abbrev dErr (bs:List UInt8):DataW Unit := .iface "*errors.errorString" (.ptr (.agg [.lit (.string bs)]))
theorem zawO {l:List (String × DataW Unit)} {W:World} (h:laidMet Tryz.prog l W) (m1:("strconv.ErrSyntax",dErr eSyn.data.toList)∈l) (m2:("strconv.ErrRange",dErr eRan.data.toList)∈l)
  (m3:("internal/strconv.uint64pow10",(Lib.tabData .u64 powL:DataW Unit))∈l) (g:Nat) (x:AV) (hx:gl0 g=some x):GV ⟨fun _=>none,fun b=>W.heap[b]?⟩ x g:=by
 have hx:bsel (Nat.beq g zaeI) (some (.ref (zag5 eSyn))) (bsel (Nat.beq g zahX) (some (.ref (zag5 eRan))) (bsel (Nat.beq g gPow) (some powA) none))=some x:=hx
 cases hb:Nat.beq g zaeI
 · rw [hb,zaaO] at hx
   cases hb2:Nat.beq g zahX
   · rw [hb2,zaaO] at hx
     cases hb3:Nat.beq g gPow
     · rw [hb3,zaaO] at hx; cases hx
     · rw [hb3,zaa2] at hx; cases hx
       obtain rfl:=Nat.eq_of_beq_eq_true hb3
       exact zari h m3 (t:=zawp) (by kernel_rfl) (by kernel_rfl) zaAa zaA zaAM zaAN
   · rw [hb2,zaa2] at hx; cases hx
     obtain rfl:=Nat.eq_of_beq_eq_true hb2
     exact zan8 h m2 (t:=tErr) (by kernel_rfl) (by kernel_rfl) zaxJ zaiI zarc zarb zass zard zavN zavO
 · rw [hb,zaa2] at hx; cases hx
   obtain rfl:=Nat.eq_of_beq_eq_true hb
   exact zan8 h m1 (t:=tErr) (by kernel_rfl) (by kernel_rfl) zaxJ zaiI zarc zarb zass zard zavN zavO
theorem zarD {H:Type}{enc:TypeId × Value->H}{W:World}{spare:Nat->Bool}{held:Bool}{n:Nat}{v:Value}{d:DataW H}{p:List MemPlace}(h:DataW.trod enc Tryz.prog W 0 spare held n zaxM [v]=some (d,p)) :
  ∃ xs:List Int,VR ⟨fun _=>none,fun b=>W.heap[b]?⟩ (.lst false 1 (xs.map i0)) v/\∀ x∈xs,-9223372036854775808<=x/\x<9223372036854775808:=by
 obtain ⟨xs,h1,h2⟩:=zamt zara zaAb zaAO h
 refine ⟨xs,h1,fun x hx => ?_⟩
 have e1:IntKind.min .i64 = -9223372036854775808:=rfl
 have e2:IntKind.max .i64=9223372036854775807:=rfl
 have:=h2 x hx
 omega
end
end Go.Proofs.YtpofhijgccocpaaGreatDoor
end
section
namespace Go.Proofs.YtpofhijgccocpaaGreatDoor
open Go.AS Go.TP
noncomputable section
attribute [local irreducible] runF in
set_option maxRecDepth 100000 in
theorem zarf (ns:List AV)(h:ns.length<=1000000):FOk Tryz.prog gl0 fTop [tS ns.length] (rowH ns) ⟨pTop ns,rowH ns,[]⟩ :=
 zadS (X:=XB.ask [fTop]) (d:=12) (zabg.ask _) (f:=fTop) (fn:=fn fTop) (code:=code fTop) (fnOk fTop (by kernel_rfl)) (show (fn fTop).body=some (code fTop) by kernel_rfl) (by kernel_rfl) (show zazF Orc.z ns from by rw [zapS]; exact ⟨zaao (by omega) (by omega), .refl _, .rfl⟩)
theorem zawb {P:Prop}{f:Nat}{ms ys:List AV}{r:AV}(h:P->FOk Tryz.prog gl0 f (tS ms.length::ys) (rowH ms) ⟨r,rowH ms,[]⟩):zagn Tryz.prog gl0 f (Sp.conW [spW P ms ys r]) :=
 Sp.okW fun s hs i hp=>by
  obtain rfl:=List.mem_singleton.1 hs
  exact (h hp).more fun k hk=>nomatch hk
theorem zaro:zagn Tryz.prog gl0 zaqT (Sp.con [zakm]):=Sp.one (s:=zakm) fun i h=>zanL i.1 i.2 h.1 h.2
theorem zaqD {xs:List AV}{s:ByteArray}{r:AV}(ht:F zai1 [.lst false 1 xs] (s0 s))(hr:F zabe [s0 s] r):(XPR xs s r).Sound :=
 (((zabg.add (zahk ht)).add (zahk hr)).add (zahk zapL)).add zaro
attribute [local irreducible] runF runL lawW
set_option maxRecDepth 100000 in
def PRGoal (xs:List AV)(a h b:Int):Prop:=∃ X os,X.Sound/\X.px=X0/\lawW X 12 zaau (fn zaau) (code zaau) os [.lst false 1 xs,i0 a,i0 h,i0 b]
set_option maxRecDepth 100000 in
theorem PRGoal.of {X:WX}(hX:X.Sound)(hp:X.px=X0){os:Orc}{xs:List AV}{a h b:Int}(g:gPR X os xs a h b):PRGoal xs a h b:=⟨_,os,(hX.ask _).askAt _ _,hp,g⟩
set_option maxRecDepth 100000 in
theorem zawC {xs:List AV} {a h b:Int} {s:ByteArray} {l:List RN} {p:Nat} {n:Nd} {x0 x:RN} (ht:F zai1 [.lst false 1 xs] (s0 s)) (hx:F zabe [s0 s] (.tup [zaxK (l.map xE),i0 0,i0 0])) (hl:l.length=p+1) (H:PrH l a x0) (hF:Few l) (hR:Rep l p n) (hn:zacX n) (hc:cntS n<=1203) (hT:Turn x0 x)
  (hY:∀ k a1 m w vs r y,(r=false->y=ByteArray.empty)->∃ os,gPRO os xs a h b s (l.map xE) (prL l a x) k a1 m w vs r y):PRGoal xs a h b:=by
 obtain ⟨m,hR,hc2,hfan,hfine⟩:=zarC hF H.at_ hT hR hn
 have hle:=H.le
 have ll:(prL l a x).length=p+1:=by rw [List.length_map,List.length_set]; exact hl
 have ep:pTop (prL l a x)=i0 (p:Int):=by
  show i0 _=i0 _
  rw [ll,show ((p+1:Nat):Int)-1=(p:Int) by omega]
 have hnd:=zasv m hfan p hR
 have hrk:=zaAo m hfine p hR
 have hrr:=zahr m hfine
 have htp:=zarf (prL l a x) (by omega)
 unfold NdOk at hnd
 unfold RkOk at hrk
 have hX0:=zaqD ht hx
 obtain ⟨k,a1,mm,w,ks⟩:=m
 have key:∃ y,F zag4 [encP (.mk k a1 mm w ks)] (s0 y)/\(zaav (.mk k a1 mm w ks)=false->y=ByteArray.empty)/\(zaav (.mk k a1 mm w ks)=true->YpOk (l.set (a % (l.length:Int)).toNat x) p 1 y):=by
  cases hb:zaav (.mk k a1 mm w ks) with
  | false=>exact ⟨_,zapu _ hb hfine,fun _=>rfl,fun h=>nomatch h⟩
  | true =>
   have hsz:(zabt (.mk k a1 mm w ks)).size<=2000000:=by
    have:=zaoy _ hb hfine
    omega
   have hyp:=zaz8 _ hb p 0 1 rfl hR hsz
   rw [show zaaC (.mk k a1 mm w ks) 0=zabt (.mk k a1 mm w ks) by rw [zaed,if_neg (Nat.not_lt_zero _)]] at hyp
   exact ⟨_,zapt _ hb hfine hsz,fun h=>(nomatch h),fun _=>hyp⟩
 obtain ⟨y,hpr,hz,hyp⟩:=key
 obtain ⟨os,g⟩:=hY k a1 mm w (encL ks) _ y hz
 have hX:=(((((hX0.add (zawb (P:=True) (ys:=[]) fun _=>htp)).add (zawb (P:=True) (f:=zaa1) (ms:=prL l a x) (ys:=[pTop (prL l a x)]) (by rw [ep]; exact fun _=>hnd))).add (zawb (P:=True) (f:=fRgt) (ms:=prL l a x) (ys:=[pTop (prL l a x)]) (by rw [ep]; exact fun _=>hrk))).add (zahk hrr)).add (zahk hpr)).add (zawb (f:=fYPr) (ms:=prL l a x) (ys:=[pTop (prL l a x),i0 1]) (by rw [ep]; exact hyp))
 exact .of hX rfl g
set_option maxRecDepth 100000 in
theorem zasd (xs:List Int)(hxs:okXs xs)(a h b:Int):PRGoal (xs.map i0) a h b:=by
 obtain ⟨s,hs,ht⟩:=zarg xs hxs
 have hx:=zal2 s
 have hpl:=@zapv s
 cases hq:zakE s with
 | long =>
  rw [hq] at hx
  refine .of (zaqD ht hx) rfl (os:=Orc.t Orc.z) (show gPRB _ (xs.map i0) a h b s 5 0 from ?_)
  rw [zan3]; exact ⟨(),⟨trivial, .refl _,rfl⟩,(),⟨trivial, .refl _,rfl⟩,rfl,(),⟨trivial, .refl _,rfl⟩,rfl⟩
 | bad k j =>
  rw [hq] at hx
  obtain ⟨hx,hk⟩:=hx
  refine .of (zaqD ht hx) rfl (os:=Orc.t Orc.z) (show gPRB _ (xs.map i0) a h b s k j from ?_)
  rw [zan3]; exact ⟨(),⟨trivial, .refl _,rfl⟩,(),⟨trivial, .refl _,rfl⟩,bne_iff_ne.2 hk,(),⟨trivial, .refl _,rfl⟩,rfl⟩
 | ok n =>
  rw [hq] at hx
  obtain ⟨l,p,hl,hle,hF,hR,hx⟩:=hx
  obtain ⟨hn,hc⟩:=hpl hq
  have hlt:(a % (l.length:Int)).toNat<l.length:=by
   have h1:=Int.emod_nonneg a (show (l.length:Int)≠0 by omega)
   have h2:=Int.emod_lt_of_pos a (show (0:Int)<(l.length:Int) by omega)
   omega
  have H:PrH l a (l[(a % (l.length:Int)).toNat]'hlt):=⟨by omega,hle,List.getElem?_eq_getElem hlt⟩
  generalize l[(a % (l.length:Int)).toNat]'hlt=x0 at H
  have go:=fun (x:RN) (hT:Turn x0 x)=>zawC (h:=h) (b:=b) ht hx hl H hF hR hn hc hT
  have tf:∀ {c:Int},¬h % 7=c->(h % 7==c)=false:=fun q=>beq_eq_false_iff_ne.2 q
  have tt:∀ {c:Int},h % 7=c->(h % 7==c)=true:=fun q=>beq_iff_eq.2 q
  by_cases q0:h % 7=0
  · exact go { x0 with kind:=b % 13-1 } ⟨.inl rfl, .inl rfl⟩ (fun k a1 m w vs r y hz=>⟨_,zaw4 H _ h b s (tt q0) k a1 m w vs hz⟩)
  by_cases q1:h % 7=1
  · exact go { x0 with n:=b } ⟨.inl rfl, .inl rfl⟩ (fun k a1 m w vs r y hz=>⟨_,zaw2 H _ h b s (tf q0) (tt q1) k a1 m w vs hz⟩)
  by_cases q2:h % 7=2
  · exact go { x0 with text:=zaq8 (b % 5) } ⟨.inl rfl, .inr (zaj4 (b % 5))⟩ (fun k a1 m w vs r y hz=>⟨_,zaw0 H _ h b s (tf q0) (tf q1) (tt q2) k a1 m w vs hz⟩)
  by_cases q3:h % 7=3
  · exact go { x0 with kids:=[] } ⟨.inr (.inl rfl), .inl rfl⟩ (fun k a1 m w vs r y hz=>⟨_,zawY H _ h b s (tf q0) (tf q1) (tf q2) (tt q3) k a1 m w vs hz⟩)
  by_cases q4:h % 7=4
  · cases hk:x0.kids with
    | nil=>exact go x0 ⟨.inl rfl, .inl rfl⟩ (fun k a1 m w vs r y hz=>⟨_,zawU H _ h b s (tf q0) (tf q1) (tf q2) (tf q3) (tt q4) hk k a1 m w vs hz⟩)
    | cons j js =>
      have h2:js.length<=1:=by
        have:=hF x0 (List.mem_of_getElem? H.at_)
        rw [hk] at this
        have:js.length+1<=2:=this
        omega
      exact go { x0 with kids:=j::js++[j] } ⟨.inr (.inr ⟨j,js,hk,rfl⟩), .inl rfl⟩ (fun k a1 m w vs r y hz=>⟨_,zawW H _ h b s (tf q0) (tf q1) (tf q2) (tf q3) (tt q4) hk h2 k a1 m w vs hz⟩)
  · exact go x0 ⟨.inl rfl, .inl rfl⟩ (fun k a1 m w vs r y hz=>⟨_,zawS H _ h b s (tf q0) (tf q1) (tf q2) (tf q3) (tf q4) k a1 m w vs hz⟩)
set_option maxRecDepth 100000 in
theorem zawB {l:List (String × DataW Unit)} {W:World} (h:laidMet Tryz.prog l W) (m1:("strconv.ErrSyntax",dErr eSyn.data.toList)∈l) (m2:("strconv.ErrRange",dErr eRan.data.toList)∈l)
  (m3:("internal/strconv.uint64pow10",(Lib.tabData .u64 powL:DataW Unit))∈l) {xs:List Int} (hb:okXs xs) {v:Value} (a h' b:Int) (hv:VR ⟨fun _=>none,fun b=>W.heap[b]?⟩ (.lst false 1 (xs.map i0)) v) :
  Calls Tryz.prog zaau #[v, .int .i64 a, .int .i64 h', .int .i64 b] W fun e W'=>e = .returned (.bool true)/\W'.os=W.os/\W'.tape=W.tape/\W'.output=W.output/\W.heap.size<=W'.heap.size/\∀ b,b<W.heap.size->W'.heap[b]?=W.heap[b]?:=by
 obtain ⟨X,os,hX,hp,hg⟩:=zasd xs hb a h' b
 have hP:X.px.P=Tryz.prog:=by rw [hp]; rfl
 have hgl:X.px.gl=gl0:=by rw [hp]; rfl
 have:=zamP hX (d:=12) (f:=zaau) (fn:=fn zaau) (code:=code zaau) (by rw [hP]; exact fnOk zaau (by kernel_rfl)) (show (fn zaau).body=some (code zaau) by kernel_rfl) (by kernel_rfl) hg (m:=fun b=>W.heap[b]?) (w:=W) (fun b o h=>h) (by
  rw [hgl]
  exact zawO h m1 m2 m3) (vals:=[v, .int .i64 a, .int .i64 h', .int .i64 b]) (.vcons hv (.vcons (.lit _) (.vcons (.lit _) (.vcons (.lit _) .vnil))))
 rw [hP] at this
 exact this
end
end Go.Proofs.YtpofhijgccocpaaGreatDoor
end
