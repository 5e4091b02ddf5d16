/- Parts of the proof of ParseDeep. -/
import Derived.Test.YtpofhijgccocpaaGreatDoorGa
import Derived.Test.YtpofhijgccocpaaGreatDoorASrefl
import Derived.Test.YtpofhijgccocpaaGreatDoorAWnil
section
namespace Go.Proofs.YtpofhijgccocpaaGreatDoor
open Go Go.AS Go.TP
noncomputable section
theorem cutOk (x:AV)(r:List AV):(decide ((0:Int)≤(1:Int)∧(1:Int)≤((List.length (x::r):Nat):Int))&&true)=true:=by
 rw [decide_eq_true ⟨by decide,by rw [List.length_cons]; omega⟩]; rfl
theorem wkNode {k a n t:AV}{ks:List AV}:Wk (.agg [k,a,n,t, .lst true 5 ks]) (.agg [k,a,n,t, .lst false 5 ks]) :=
 .agg (.cons (.refl _) (.cons (.refl _) (.cons (.refl _) (.cons (.refl _) (.cons .lst .nil)))))
theorem wkZero {k a n t:AV}:Wk (.agg [k,a,n,t, .lit (.slice none 0 0)]) (.agg [k,a,n,t, .lst false 5 []]) :=
 .agg (.cons (.refl _) (.cons (.refl _) (.cons (.refl _) (.cons (.refl _) (.cons .nilS .nil)))))
theorem hwNode {m p z:Nat × Ent}{i:Go.AS.Id}{k a n t:AV}{ks:List AV}:HW (hpL [m,(1048577,⟨i, .row true 5 [.agg [k,a,n,t, .lst true 5 ks]]⟩),p,z]) (hpL [m,(1048577,⟨i, .row true 5 [.agg [k,a,n,t, .lst false 5 ks]]⟩),p,z]) [1048577,1048580] :=
 .cons (.row (by simp) (.cons wkNode .nil) (.cons (.cons (.nil _))))
theorem aBad_ok (k:Int)(a:Int)(x:ByteArray)(r:List AV)(d:Int)(t0:(k==(2:Int))=false)(t1:(k==(1:Int))=false)(_:0≤d)(_:d≤24):aBad (Orc.f (Orc.f (Orc.f Orc.z))) k a x r d:=by
 rw [aBad_vc]
 repeat' first
  | exact rfl
  | assumption
  | exact .refl _
  | exact .rfl
  | exact cutOk _ _
  | exact Nat.le_refl 2
  | exact inR_i64 (by omega) (by omega)
  | exact .tup (.cons wkNode (.refl _))
  | exact .tup (.cons wkZero (.refl _))
  | refine ⟨(),⟨trivial, .refl _,rfl⟩,?_⟩
  | refine ⟨(),⟨trivial, .refl _, .refl _ _⟩,?_⟩
  | refine ⟨(),⟨trivial, .refl _,hwNode⟩,?_⟩
  | refine And.intro ?_ ?_
theorem aDeep_ok (a:Int)(x:ByteArray)(r:List AV)  : aDeep oaDeep a x r:=by
 rw [aDeep_vc]
 repeat' first
  | exact rfl
  | assumption
  | exact .refl _
  | exact .rfl
  | exact cutOk _ _
  | exact Nat.le_refl 2
  | exact inR_i64 (by omega) (by omega)
  | exact .tup (.cons wkNode (.refl _))
  | exact .tup (.cons wkZero (.refl _))
  | refine ⟨(),⟨trivial, .refl _,rfl⟩,?_⟩
  | refine ⟨(),⟨trivial, .refl _, .refl _ _⟩,?_⟩
  | refine ⟨(),⟨trivial, .refl _,hwNode⟩,?_⟩
  | refine And.intro ?_ ?_
theorem aOpen_ok (a:Int)(x:ByteArray)(r:List AV)(d:Int)(q:Nd)(a':Int)(x':ByteArray)(r':List AV)(t0:(d==(24:Int))=false)(h0:0≤d)(h1:d≤24):aOpen oaOpen a x r d q a' x' r':=by
 rw [aOpen_vc]
 have e:d+(1:Int)-(1:Int)=d:=by omega
 rw [e]
 repeat' first
  | exact rfl
  | assumption
  | exact .refl _
  | exact .rfl
  | exact cutOk _ _
  | exact Nat.le_refl 2
  | exact inR_i64 (by omega) (by omega)
  | exact .tup (.cons wkNode (.refl _))
  | exact .tup (.cons wkZero (.refl _))
  | refine ⟨(),⟨trivial, .refl _,rfl⟩,?_⟩
  | refine ⟨(),⟨trivial, .refl _, .refl _ _⟩,?_⟩
  | refine ⟨(),⟨trivial, .refl _,hwNode⟩,?_⟩
  | refine And.intro ?_ ?_
theorem aOpenX_ok (a:Int)(x:ByteArray)(r:List AV)(d:Int)(q:Nd)(k':Int)(a':Int)(x':ByteArray)(r':List AV)(t0:(d==(24:Int))=false)(t1:(k' != (3:Int))=true)(h0:0≤d)(h1:d≤24):aOpenX oaOpenX a x r d q k' a' x' r':=by
 rw [aOpenX_vc]
 have e:d+(1:Int)-(1:Int)=d:=by omega
 rw [e]
 repeat' first
  | exact rfl
  | assumption
  | exact .refl _
  | exact .rfl
  | exact cutOk _ _
  | exact Nat.le_refl 2
  | exact inR_i64 (by omega) (by omega)
  | exact .tup (.cons wkNode (.refl _))
  | exact .tup (.cons wkZero (.refl _))
  | refine ⟨(),⟨trivial, .refl _,rfl⟩,?_⟩
  | refine ⟨(),⟨trivial, .refl _, .refl _ _⟩,?_⟩
  | refine ⟨(),⟨trivial, .refl _,hwNode⟩,?_⟩
  | refine And.intro ?_ ?_
theorem aOpenE_ok (a:Int)(x:ByteArray)(r:List AV)(d:Int)(q:Nd)(ek:Int)(ea:Int)(ts':List AV)(t0:(d==(24:Int))=false)(h0:0≤d)(h1:d≤24):aOpenE oaOpenE a x r d q ek ea ts':=by
 rw [aOpenE_vc]
 have e:d+(1:Int)-(1:Int)=d:=by omega
 rw [e]
 repeat' first
  | exact rfl
  | assumption
  | exact .refl _
  | exact .rfl
  | exact cutOk _ _
  | exact Nat.le_refl 2
  | exact inR_i64 (by omega) (by omega)
  | exact .tup (.cons wkNode (.refl _))
  | exact .tup (.cons wkZero (.refl _))
  | refine ⟨(),⟨trivial, .refl _,rfl⟩,?_⟩
  | refine ⟨(),⟨trivial, .refl _, .refl _ _⟩,?_⟩
  | refine ⟨(),⟨trivial, .refl _,hwNode⟩,?_⟩
  | refine And.intro ?_ ?_
theorem aName_ok (a:Int)(x:ByteArray)(k':Int)(a':Int)(x':ByteArray)(r:List AV)(d:Int)(t0:(k'==(2:Int))=false)(_:0≤d)(_:d≤24):aName oaName a x k' a' x' r d:=by
 rw [aName_vc]
 repeat' first
  | exact rfl
  | assumption
  | exact .refl _
  | exact .rfl
  | exact cutOk _ _
  | exact Nat.le_refl 2
  | exact inR_i64 (by omega) (by omega)
  | exact .tup (.cons wkNode (.refl _))
  | exact .tup (.cons wkZero (.refl _))
  | refine ⟨(),⟨trivial, .refl _,rfl⟩,?_⟩
  | refine ⟨(),⟨trivial, .refl _, .refl _ _⟩,?_⟩
  | refine ⟨(),⟨trivial, .refl _,hwNode⟩,?_⟩
  | refine And.intro ?_ ?_
theorem aNameX_ok (a:Int)(x:ByteArray)(k':Int)(a':Int)(x':ByteArray)(r:List AV)(d:Int)(t0:(k'==(2:Int))=false)(_:0≤d)(_:d≤24):aNameX oaNameX a x k' a' x' r d:=by
 rw [aNameX_vc]
 repeat' first
  | exact rfl
  | assumption
  | exact .refl _
  | exact .rfl
  | exact cutOk _ _
  | exact Nat.le_refl 2
  | exact inR_i64 (by omega) (by omega)
  | exact .tup (.cons wkNode (.refl _))
  | exact .tup (.cons wkZero (.refl _))
  | refine ⟨(),⟨trivial, .refl _,rfl⟩,?_⟩
  | refine ⟨(),⟨trivial, .refl _, .refl _ _⟩,?_⟩
  | refine ⟨(),⟨trivial, .refl _,hwNode⟩,?_⟩
  | refine And.intro ?_ ?_
theorem aCall0_ok (a:Int)(x:ByteArray)(a':Int)(x':ByteArray)(r:List AV)(d:Int)  (_:0≤d)(_:d≤24):aCall0 oaCall0 a x a' x' r d:=by
 rw [aCall0_vc]
 repeat' first
  | exact rfl
  | assumption
  | exact .refl _
  | exact .rfl
  | exact cutOk _ _
  | exact Nat.le_refl 2
  | exact inR_i64 (by omega) (by omega)
  | exact .tup (.cons wkNode (.refl _))
  | exact .tup (.cons wkZero (.refl _))
  | refine ⟨(),⟨trivial, .refl _,rfl⟩,?_⟩
  | refine ⟨(),⟨trivial, .refl _, .refl _ _⟩,?_⟩
  | refine ⟨(),⟨trivial, .refl _,hwNode⟩,?_⟩
  | refine And.intro ?_ ?_
theorem aCallD_ok (a:Int)(x:ByteArray)(v:Int)(a':Int)(x':ByteArray)(r:List AV)(t0:(v==(0:Int))=false):aCallD oaCallD a x v a' x' r:=by
 rw [aCallD_vc]
 repeat' first
  | exact rfl
  | assumption
  | exact .refl _
  | exact .rfl
  | exact cutOk _ _
  | exact Nat.le_refl 2
  | exact inR_i64 (by omega) (by omega)
  | exact .tup (.cons wkNode (.refl _))
  | exact .tup (.cons wkZero (.refl _))
  | refine ⟨(),⟨trivial, .refl _,rfl⟩,?_⟩
  | refine ⟨(),⟨trivial, .refl _, .refl _ _⟩,?_⟩
  | refine ⟨(),⟨trivial, .refl _,hwNode⟩,?_⟩
  | refine And.intro ?_ ?_
theorem aCall1_ok (a:Int)(x:ByteArray)(a':Int)(x':ByteArray)(c:Int)(y:ByteArray)(r:List AV)(d:Int)(t0:(d==(24:Int))=false)(h0:0≤d)(h1:d≤24):aCall1 oaCall1 a x a' x' c y r d:=by
 rw [aCall1_vc]
 have e:d+(1:Int)-(1:Int)=d:=by omega
 rw [e]
 repeat' first
  | exact rfl
  | assumption
  | exact .refl _
  | exact .rfl
  | exact cutOk _ _
  | exact Nat.le_refl 2
  | exact inR_i64 (by omega) (by omega)
  | exact .tup (.cons wkNode (.refl _))
  | exact .tup (.cons wkZero (.refl _))
  | refine ⟨(),⟨trivial, .refl _,rfl⟩,?_⟩
  | refine ⟨(),⟨trivial, .refl _, .refl _ _⟩,?_⟩
  | refine ⟨(),⟨trivial, .refl _,hwNode⟩,?_⟩
  | refine And.intro ?_ ?_
theorem aCall1X_ok (a:Int)(x:ByteArray)(a':Int)(x':ByteArray)(kc:Int)(c:Int)(y:ByteArray)(r:List AV)(d:Int)(t0:(d==(24:Int))=false)(t1:(kc != (3:Int))=true)(h0:0≤d)(h1:d≤24):aCall1X oaCall1X a x a' x' kc c y r d:=by
 rw [aCall1X_vc]
 have e:d+(1:Int)-(1:Int)=d:=by omega
 rw [e]
 repeat' first
  | exact rfl
  | assumption
  | exact .refl _
  | exact .rfl
  | exact cutOk _ _
  | exact Nat.le_refl 2
  | exact inR_i64 (by omega) (by omega)
  | exact .tup (.cons wkNode (.refl _))
  | exact .tup (.cons wkZero (.refl _))
  | refine ⟨(),⟨trivial, .refl _,rfl⟩,?_⟩
  | refine ⟨(),⟨trivial, .refl _, .refl _ _⟩,?_⟩
  | refine ⟨(),⟨trivial, .refl _,hwNode⟩,?_⟩
  | refine And.intro ?_ ?_
theorem aCallE_ok (a:Int)(x:ByteArray)(v:Int)(a':Int)(x':ByteArray)(r:List AV)(d:Int)(q:Nd)(ek:Int)(ea:Int)(ts':List AV)(t0:(v==(0:Int))=false)(t1:(d==(24:Int))=false)(t2:(v==(1:Int))=false)(h0:0≤d)(h1:d≤24):aCallE oaCallE a x v a' x' r d q ek ea ts':=by
 rw [aCallE_vc]
 have e:d+(1:Int)-(1:Int)=d:=by omega
 rw [e]
 repeat' first
  | exact rfl
  | assumption
  | exact .refl _
  | exact .rfl
  | exact cutOk _ _
  | exact Nat.le_refl 2
  | exact inR_i64 (by omega) (by omega)
  | exact .tup (.cons wkNode (.refl _))
  | exact .tup (.cons wkZero (.refl _))
  | refine ⟨(),⟨trivial, .refl _,rfl⟩,?_⟩
  | refine ⟨(),⟨trivial, .refl _, .refl _ _⟩,?_⟩
  | refine ⟨(),⟨trivial, .refl _,hwNode⟩,?_⟩
  | refine And.intro ?_ ?_
theorem aCall2_ok (a:Int)(x:ByteArray)(a':Int)(x':ByteArray)(r:List AV)(d:Int)(q:Nd)(c:Int)(y:ByteArray)(r':List AV)(t0:(d==(24:Int))=false)(h0:0≤d)(h1:d≤24):aCall2 oaCall2 a x a' x' r d q c y r':=by
 rw [aCall2_vc]
 have e:d+(1:Int)-(1:Int)=d:=by omega
 rw [e]
 repeat' first
  | exact rfl
  | assumption
  | exact .refl _
  | exact .rfl
  | exact cutOk _ _
  | exact Nat.le_refl 2
  | exact inR_i64 (by omega) (by omega)
  | exact .tup (.cons wkNode (.refl _))
  | exact .tup (.cons wkZero (.refl _))
  | refine ⟨(),⟨trivial, .refl _,rfl⟩,?_⟩
  | refine ⟨(),⟨trivial, .refl _, .refl _ _⟩,?_⟩
  | refine ⟨(),⟨trivial, .refl _,hwNode⟩,?_⟩
  | refine And.intro ?_ ?_
theorem aCall2X_ok (a:Int)(x:ByteArray)(a':Int)(x':ByteArray)(r:List AV)(d:Int)(q:Nd)(kc:Int)(c:Int)(y:ByteArray)(r':List AV)(t0:(d==(24:Int))=false)(t1:(kc != (3:Int))=true)(h0:0≤d)(h1:d≤24):aCall2X oaCall2X a x a' x' r d q kc c y r':=by
 rw [aCall2X_vc]
 have e:d+(1:Int)-(1:Int)=d:=by omega
 rw [e]
 repeat' first
  | exact rfl
  | assumption
  | exact .refl _
  | exact .rfl
  | exact cutOk _ _
  | exact Nat.le_refl 2
  | exact inR_i64 (by omega) (by omega)
  | exact .tup (.cons wkNode (.refl _))
  | exact .tup (.cons wkZero (.refl _))
  | refine ⟨(),⟨trivial, .refl _,rfl⟩,?_⟩
  | refine ⟨(),⟨trivial, .refl _, .refl _ _⟩,?_⟩
  | refine ⟨(),⟨trivial, .refl _,hwNode⟩,?_⟩
  | refine And.intro ?_ ?_
theorem aCall3C_ok (a:Int)(x:ByteArray)(a':Int)(x':ByteArray)(r:List AV)(d:Int)(q:Nd)(kc:Int)(c:Int)(y:ByteArray)(r':List AV)(t0:(d==(24:Int))=false)(t1:(kc != (4:Int))=true)(h0:0≤d)(h1:d≤24):aCall3C oaCall3C a x a' x' r d q kc c y r':=by
 rw [aCall3C_vc]
 have e:d+(1:Int)-(1:Int)=d:=by omega
 rw [e]
 repeat' first
  | exact rfl
  | assumption
  | exact .refl _
  | exact .rfl
  | exact cutOk _ _
  | exact Nat.le_refl 2
  | exact inR_i64 (by omega) (by omega)
  | exact .tup (.cons wkNode (.refl _))
  | exact .tup (.cons wkZero (.refl _))
  | refine ⟨(),⟨trivial, .refl _,rfl⟩,?_⟩
  | refine ⟨(),⟨trivial, .refl _, .refl _ _⟩,?_⟩
  | refine ⟨(),⟨trivial, .refl _,hwNode⟩,?_⟩
  | refine And.intro ?_ ?_
theorem aCall3N_ok (a:Int)(x:ByteArray)(a':Int)(x':ByteArray)(r:List AV)(d:Int)(q:Nd)(c:Int)(y:ByteArray)(kn:Int)(an:Int)(xn:ByteArray)(m:Int)(r':List AV)(t0:(d==(24:Int))=false)(h0:0≤d)(h1:d≤24):aCall3N oaCall3N a x a' x' r d q c y kn an xn m r':=by
 rw [aCall3N_vc]
 have e:d+(1:Int)-(1:Int)=d:=by omega
 rw [e]
 repeat' first
  | exact rfl
  | assumption
  | exact .refl _
  | exact .rfl
  | exact cutOk _ _
  | exact Nat.le_refl 2
  | exact inR_i64 (by omega) (by omega)
  | exact .tup (.cons wkNode (.refl _))
  | exact .tup (.cons wkZero (.refl _))
  | refine ⟨(),⟨trivial, .refl _,rfl⟩,?_⟩
  | refine ⟨(),⟨trivial, .refl _, .refl _ _⟩,?_⟩
  | refine ⟨(),⟨trivial, .refl _,hwNode⟩,?_⟩
  | refine And.intro ?_ ?_
theorem aCall3_ok (a:Int)(x:ByteArray)(a':Int)(x':ByteArray)(r:List AV)(d:Int)(q:Nd)(c:Int)(y:ByteArray)(an:Int)(xn:ByteArray)(m:Int)(z:Int)(w:ByteArray)(r':List AV)(t0:(d==(24:Int))=false)(h0:0≤d)(h1:d≤24):aCall3 oaCall3 a x a' x' r d q c y an xn m z w r':=by
 rw [aCall3_vc]
 have e:d+(1:Int)-(1:Int)=d:=by omega
 rw [e]
 repeat' first
  | exact rfl
  | assumption
  | exact .refl _
  | exact .rfl
  | exact cutOk _ _
  | exact Nat.le_refl 2
  | exact inR_i64 (by omega) (by omega)
  | exact .tup (.cons wkNode (.refl _))
  | exact .tup (.cons wkZero (.refl _))
  | refine ⟨(),⟨trivial, .refl _,rfl⟩,?_⟩
  | refine ⟨(),⟨trivial, .refl _, .refl _ _⟩,?_⟩
  | refine ⟨(),⟨trivial, .refl _,hwNode⟩,?_⟩
  | refine And.intro ?_ ?_
theorem aCall3X_ok (a:Int)(x:ByteArray)(a':Int)(x':ByteArray)(r:List AV)(d:Int)(q:Nd)(c:Int)(y:ByteArray)(an:Int)(xn:ByteArray)(m:Int)(kz:Int)(z:Int)(w:ByteArray)(r':List AV)(t0:(d==(24:Int))=false)(t1:(kz != (3:Int))=true)(h0:0≤d)(h1:d≤24):aCall3X oaCall3X a x a' x' r d q c y an xn m kz z w r':=by
 rw [aCall3X_vc]
 have e:d+(1:Int)-(1:Int)=d:=by omega
 rw [e]
 repeat' first
  | exact rfl
  | assumption
  | exact .refl _
  | exact .rfl
  | exact cutOk _ _
  | exact Nat.le_refl 2
  | exact inR_i64 (by omega) (by omega)
  | exact .tup (.cons wkNode (.refl _))
  | exact .tup (.cons wkZero (.refl _))
  | refine ⟨(),⟨trivial, .refl _,rfl⟩,?_⟩
  | refine ⟨(),⟨trivial, .refl _, .refl _ _⟩,?_⟩
  | refine ⟨(),⟨trivial, .refl _,hwNode⟩,?_⟩
  | refine And.intro ?_ ?_
theorem kTake_ok (a:Int)(x:ByteArray)(r:List AV)(d:Int)  (_:0≤d)(_:d≤24):kTake (Orc.t Orc.z) a x r d:=by
 rw [kTake_vc]
 repeat' first
  | exact rfl
  | assumption
  | exact .refl _
  | exact .rfl
  | exact cutOk _ _
  | exact Nat.le_refl 2
  | exact inR_i64 (by omega) (by omega)
  | exact .tup (.cons wkNode (.refl _))
  | exact .tup (.cons wkZero (.refl _))
  | refine ⟨(),⟨trivial, .refl _,rfl⟩,?_⟩
  | refine ⟨(),⟨trivial, .refl _, .refl _ _⟩,?_⟩
  | refine ⟨(),⟨trivial, .refl _,hwNode⟩,?_⟩
  | refine And.intro ?_ ?_
theorem uD_ok (a:Int)(x:ByteArray)(r:List AV)  : uD (Orc.t (Orc.f Orc.z)) a x r:=by
 rw [uD_vc]
 repeat' first
  | exact rfl
  | assumption
  | exact .refl _
  | exact .rfl
  | exact cutOk _ _
  | exact Nat.le_refl 2
  | exact inR_i64 (by omega) (by omega)
  | exact .tup (.cons wkNode (.refl _))
  | exact .tup (.cons wkZero (.refl _))
  | refine ⟨(),⟨trivial, .refl _,rfl⟩,?_⟩
  | refine ⟨(),⟨trivial, .refl _, .refl _ _⟩,?_⟩
  | refine ⟨(),⟨trivial, .refl _,hwNode⟩,?_⟩
  | refine And.intro ?_ ?_
theorem uN_ok (a:Int)(x:ByteArray)(r:List AV)(d:Int)(q:Nd)(ts':List AV)(t0:(d==(24:Int))=false)(h0:0≤d)(h1:d≤24):uN (Orc.f Orc.z) a x r d q ts':=by
 rw [uN_vc]
 have e:d+(1:Int)-(1:Int)=d:=by omega
 rw [e]
 repeat' first
  | exact rfl
  | assumption
  | exact .refl _
  | exact .rfl
  | exact cutOk _ _
  | exact Nat.le_refl 2
  | exact inR_i64 (by omega) (by omega)
  | exact .tup (.cons wkNode (.refl _))
  | exact .tup (.cons wkZero (.refl _))
  | refine ⟨(),⟨trivial, .refl _,rfl⟩,?_⟩
  | refine ⟨(),⟨trivial, .refl _, .refl _ _⟩,?_⟩
  | refine ⟨(),⟨trivial, .refl _,hwNode⟩,?_⟩
  | refine And.intro ?_ ?_
theorem uE_ok (a:Int)(x:ByteArray)(r:List AV)(d:Int)(q:Nd)(ek:Int)(ea:Int)(ts':List AV)(t0:(d==(24:Int))=false)(h0:0≤d)(h1:d≤24):uE (Orc.f Orc.z) a x r d q ek ea ts':=by
 rw [uE_vc]
 have e:d+(1:Int)-(1:Int)=d:=by omega
 rw [e]
 repeat' first
  | exact rfl
  | assumption
  | exact .refl _
  | exact .rfl
  | exact cutOk _ _
  | exact Nat.le_refl 2
  | exact inR_i64 (by omega) (by omega)
  | exact .tup (.cons wkNode (.refl _))
  | exact .tup (.cons wkZero (.refl _))
  | refine ⟨(),⟨trivial, .refl _,rfl⟩,?_⟩
  | refine ⟨(),⟨trivial, .refl _, .refl _ _⟩,?_⟩
  | refine ⟨(),⟨trivial, .refl _,hwNode⟩,?_⟩
  | refine And.intro ?_ ?_
theorem rUpN_ok (a:Int)(x:ByteArray)(r:List AV)(d:Int)(q:Nd)(ts':List AV)  (_:0≤d)(_:d≤24):rUpN (Orc.t Orc.z) a x r d q ts':=by
 rw [rUpN_vc]
 repeat' first
  | exact rfl
  | assumption
  | exact .refl _
  | exact .rfl
  | exact cutOk _ _
  | exact Nat.le_refl 2
  | exact inR_i64 (by omega) (by omega)
  | exact .tup (.cons wkNode (.refl _))
  | exact .tup (.cons wkZero (.refl _))
  | refine ⟨(),⟨trivial, .refl _,rfl⟩,?_⟩
  | refine ⟨(),⟨trivial, .refl _, .refl _ _⟩,?_⟩
  | refine ⟨(),⟨trivial, .refl _,hwNode⟩,?_⟩
  | refine And.intro ?_ ?_
theorem rUpE_ok (a:Int)(x:ByteArray)(r:List AV)(d:Int)(q:Nd)(ek:Int)(ea:Int)(ts':List AV)  (_:0≤d)(_:d≤24):rUpE (Orc.t Orc.z) a x r d q ek ea ts':=by
 rw [rUpE_vc]
 repeat' first
  | exact rfl
  | assumption
  | exact .refl _
  | exact .rfl
  | exact cutOk _ _
  | exact Nat.le_refl 2
  | exact inR_i64 (by omega) (by omega)
  | exact .tup (.cons wkNode (.refl _))
  | exact .tup (.cons wkZero (.refl _))
  | refine ⟨(),⟨trivial, .refl _,rfl⟩,?_⟩
  | refine ⟨(),⟨trivial, .refl _, .refl _ _⟩,?_⟩
  | refine ⟨(),⟨trivial, .refl _,hwNode⟩,?_⟩
  | refine And.intro ?_ ?_
theorem rAtE_ok (k:Int)(a:Int)(x:ByteArray)(r:List AV)(d:Int)(q:Nd)(ek:Int)(ea:Int)(ts':List AV)(t0:(k==(5:Int))=false)(_:0≤d)(_:d≤24):rAtE (Orc.f (Orc.t Orc.z)) k a x r d q ek ea ts':=by
 rw [rAtE_vc]
 repeat' first
  | exact rfl
  | assumption
  | exact .refl _
  | exact .rfl
  | exact cutOk _ _
  | exact Nat.le_refl 2
  | exact inR_i64 (by omega) (by omega)
  | exact .tup (.cons wkNode (.refl _))
  | exact .tup (.cons wkZero (.refl _))
  | refine ⟨(),⟨trivial, .refl _,rfl⟩,?_⟩
  | refine ⟨(),⟨trivial, .refl _, .refl _ _⟩,?_⟩
  | refine ⟨(),⟨trivial, .refl _,hwNode⟩,?_⟩
  | refine And.intro ?_ ?_
theorem rAt0_ok (k:Int)(a:Int)(x:ByteArray)(r:List AV)(d:Int)(q:Nd)(k':Int)(a':Int)(x':ByteArray)(r':List AV)(t0:(k==(5:Int))=false)(t1:(k'==(5:Int))=false)(t2:(k'==(6:Int))=false)(_:0≤d)(_:d≤24):rAt0 orAt0 k a x r d q k' a' x' r':=by
 rw [rAt0_vc]
 repeat' first
  | exact rfl
  | assumption
  | exact .refl _
  | exact .rfl
  | exact cutOk _ _
  | exact Nat.le_refl 2
  | exact inR_i64 (by omega) (by omega)
  | exact .tup (.cons wkNode (.refl _))
  | exact .tup (.cons wkZero (.refl _))
  | refine ⟨(),⟨trivial, .refl _,rfl⟩,?_⟩
  | refine ⟨(),⟨trivial, .refl _, .refl _ _⟩,?_⟩
  | refine ⟨(),⟨trivial, .refl _,hwNode⟩,?_⟩
  | refine And.intro ?_ ?_
theorem rBetD_ok (k:Int)(a:Int)(x:ByteArray)(r:List AV)(q:Nd)(a':Int)(x':ByteArray)(r':List AV)(t0:(k==(5:Int))=false):rBetD orBetD k a x r q a' x' r':=by
 rw [rBetD_vc]
 repeat' first
  | exact rfl
  | assumption
  | exact .refl _
  | exact .rfl
  | exact cutOk _ _
  | exact Nat.le_refl 2
  | exact inR_i64 (by omega) (by omega)
  | exact .tup (.cons wkNode (.refl _))
  | exact .tup (.cons wkZero (.refl _))
  | refine ⟨(),⟨trivial, .refl _,rfl⟩,?_⟩
  | refine ⟨(),⟨trivial, .refl _, .refl _ _⟩,?_⟩
  | refine ⟨(),⟨trivial, .refl _,hwNode⟩,?_⟩
  | refine And.intro ?_ ?_
theorem rDown_ok (k:Int)(a:Int)(x:ByteArray)(r:List AV)(d:Int)(q:Nd)(a':Int)(x':ByteArray)(k2:Int)(a2:Int)(x2:ByteArray)(r':List AV)(t0:(k==(5:Int))=false)(t1:(d==(24:Int))=false)(t2:(k2==(2:Int))=false)(t3:(k2==(1:Int))=false)(h0:0≤d)(h1:d≤24):rDown orDown k a x r d q a' x' k2 a2 x2 r':=by
 rw [rDown_vc]
 have e:d+(1:Int)-(1:Int)=d:=by omega
 rw [e]
 repeat' first
  | exact rfl
  | assumption
  | exact .refl _
  | exact .rfl
  | exact cutOk _ _
  | exact Nat.le_refl 2
  | exact inR_i64 (by omega) (by omega)
  | exact .tup (.cons wkNode (.refl _))
  | exact .tup (.cons wkZero (.refl _))
  | refine ⟨(),⟨trivial, .refl _,rfl⟩,?_⟩
  | refine ⟨(),⟨trivial, .refl _, .refl _ _⟩,?_⟩
  | refine ⟨(),⟨trivial, .refl _,hwNode⟩,?_⟩
  | refine And.intro ?_ ?_
theorem rBet2N_ok (k:Int)(a:Int)(x:ByteArray)(r:List AV)(d:Int)(q:Nd)(a':Int)(x':ByteArray)(a2:Int)(x2:ByteArray)(r':List AV)(q2:Nd)(ts':List AV)(t0:(k==(5:Int))=false)(t1:(d==(24:Int))=false)(h0:0≤d)(h1:d≤24):rBet2N orBet2N k a x r d q a' x' a2 x2 r' q2 ts':=by
 rw [rBet2N_vc]
 have e:d+(1:Int)-(1:Int)=d:=by omega
 rw [e]
 repeat' first
  | exact rfl
  | assumption
  | exact .refl _
  | exact .rfl
  | exact cutOk _ _
  | exact Nat.le_refl 2
  | exact inR_i64 (by omega) (by omega)
  | exact .tup (.cons wkNode (.refl _))
  | exact .tup (.cons wkZero (.refl _))
  | refine ⟨(),⟨trivial, .refl _,rfl⟩,?_⟩
  | refine ⟨(),⟨trivial, .refl _, .refl _ _⟩,?_⟩
  | refine ⟨(),⟨trivial, .refl _,hwNode⟩,?_⟩
  | refine And.intro ?_ ?_
theorem rBet2E_ok (k:Int)(a:Int)(x:ByteArray)(r:List AV)(d:Int)(q:Nd)(a':Int)(x':ByteArray)(a2:Int)(x2:ByteArray)(r':List AV)(q2:Nd)(ek:Int)(ea:Int)(ts':List AV)(t0:(k==(5:Int))=false)(t1:(d==(24:Int))=false)(h0:0≤d)(h1:d≤24):rBet2E orBet2E k a x r d q a' x' a2 x2 r' q2 ek ea ts':=by
 rw [rBet2E_vc]
 have e:d+(1:Int)-(1:Int)=d:=by omega
 rw [e]
 repeat' first
  | exact rfl
  | assumption
  | exact .refl _
  | exact .rfl
  | exact cutOk _ _
  | exact Nat.le_refl 2
  | exact inR_i64 (by omega) (by omega)
  | exact .tup (.cons wkNode (.refl _))
  | exact .tup (.cons wkZero (.refl _))
  | refine ⟨(),⟨trivial, .refl _,rfl⟩,?_⟩
  | refine ⟨(),⟨trivial, .refl _, .refl _ _⟩,?_⟩
  | refine ⟨(),⟨trivial, .refl _,hwNode⟩,?_⟩
  | refine And.intro ?_ ?_
theorem rBet1N_ok (k:Int)(a:Int)(x:ByteArray)(r:List AV)(d:Int)(q:Nd)(a':Int)(x':ByteArray)(a2:Int)(x2:ByteArray)(r':List AV)(q2:Nd)(ts':List AV)(t0:(k==(5:Int))=false)(t1:(d==(24:Int))=false)(h0:0≤d)(h1:d≤24):rBet1N orBet1N k a x r d q a' x' a2 x2 r' q2 ts':=by
 rw [rBet1N_vc]
 have e:d+(1:Int)-(1:Int)=d:=by omega
 rw [e]
 repeat' first
  | exact rfl
  | assumption
  | exact .refl _
  | exact .rfl
  | exact cutOk _ _
  | exact Nat.le_refl 2
  | exact inR_i64 (by omega) (by omega)
  | exact .tup (.cons wkNode (.refl _))
  | exact .tup (.cons wkZero (.refl _))
  | refine ⟨(),⟨trivial, .refl _,rfl⟩,?_⟩
  | refine ⟨(),⟨trivial, .refl _, .refl _ _⟩,?_⟩
  | refine ⟨(),⟨trivial, .refl _,hwNode⟩,?_⟩
  | refine And.intro ?_ ?_
theorem rBet1E_ok (k:Int)(a:Int)(x:ByteArray)(r:List AV)(d:Int)(q:Nd)(a':Int)(x':ByteArray)(a2:Int)(x2:ByteArray)(r':List AV)(q2:Nd)(ek:Int)(ea:Int)(ts':List AV)(t0:(k==(5:Int))=false)(t1:(d==(24:Int))=false)(h0:0≤d)(h1:d≤24):rBet1E orBet1E k a x r d q a' x' a2 x2 r' q2 ek ea ts':=by
 rw [rBet1E_vc]
 have e:d+(1:Int)-(1:Int)=d:=by omega
 rw [e]
 repeat' first
  | exact rfl
  | assumption
  | exact .refl _
  | exact .rfl
  | exact cutOk _ _
  | exact Nat.le_refl 2
  | exact inR_i64 (by omega) (by omega)
  | exact .tup (.cons wkNode (.refl _))
  | exact .tup (.cons wkZero (.refl _))
  | refine ⟨(),⟨trivial, .refl _,rfl⟩,?_⟩
  | refine ⟨(),⟨trivial, .refl _, .refl _ _⟩,?_⟩
  | refine ⟨(),⟨trivial, .refl _,hwNode⟩,?_⟩
  | refine And.intro ?_ ?_
theorem rOnlyN_ok (k:Int)(a:Int)(x:ByteArray)(r:List AV)(d:Int)(q:Nd)(a':Int)(x':ByteArray)(r':List AV)(q2:Nd)(ts':List AV)(t0:(k==(5:Int))=false)(_:0≤d)(_:d≤24):rOnlyN orOnlyN k a x r d q a' x' r' q2 ts':=by
 rw [rOnlyN_vc]
 repeat' first
  | exact rfl
  | assumption
  | exact .refl _
  | exact .rfl
  | exact cutOk _ _
  | exact Nat.le_refl 2
  | exact inR_i64 (by omega) (by omega)
  | exact .tup (.cons wkNode (.refl _))
  | exact .tup (.cons wkZero (.refl _))
  | refine ⟨(),⟨trivial, .refl _,rfl⟩,?_⟩
  | refine ⟨(),⟨trivial, .refl _, .refl _ _⟩,?_⟩
  | refine ⟨(),⟨trivial, .refl _,hwNode⟩,?_⟩
  | refine And.intro ?_ ?_
theorem rOnlyE_ok (k:Int)(a:Int)(x:ByteArray)(r:List AV)(d:Int)(q:Nd)(a':Int)(x':ByteArray)(r':List AV)(q2:Nd)(ek:Int)(ea:Int)(ts':List AV)(t0:(k==(5:Int))=false)(_:0≤d)(_:d≤24):rOnlyE orOnlyE k a x r d q a' x' r' q2 ek ea ts':=by
 rw [rOnlyE_vc]
 repeat' first
  | exact rfl
  | assumption
  | exact .refl _
  | exact .rfl
  | exact cutOk _ _
  | exact Nat.le_refl 2
  | exact inR_i64 (by omega) (by omega)
  | exact .tup (.cons wkNode (.refl _))
  | exact .tup (.cons wkZero (.refl _))
  | refine ⟨(),⟨trivial, .refl _,rfl⟩,?_⟩
  | refine ⟨(),⟨trivial, .refl _, .refl _ _⟩,?_⟩
  | refine ⟨(),⟨trivial, .refl _,hwNode⟩,?_⟩
  | refine And.intro ?_ ?_
theorem tNotD_ok (a:Int)(x:ByteArray)(r:List AV)  : tNotD otNotD a x r:=by
 rw [tNotD_vc]
 repeat' first
  | exact rfl
  | assumption
  | exact .refl _
  | exact .rfl
  | exact cutOk _ _
  | exact Nat.le_refl 2
  | exact inR_i64 (by omega) (by omega)
  | exact .tup (.cons wkNode (.refl _))
  | exact .tup (.cons wkZero (.refl _))
  | refine ⟨(),⟨trivial, .refl _,rfl⟩,?_⟩
  | refine ⟨(),⟨trivial, .refl _, .refl _ _⟩,?_⟩
  | refine ⟨(),⟨trivial, .refl _,hwNode⟩,?_⟩
  | refine And.intro ?_ ?_
theorem tNotN_ok (a:Int)(x:ByteArray)(r:List AV)(d:Int)(q:Nd)(ts':List AV)(t0:(d==(24:Int))=false)(h0:0≤d)(h1:d≤24):tNotN (Orc.f (Orc.t (Orc.f Orc.z))) a x r d q ts':=by
 rw [tNotN_vc]
 have e:d+(1:Int)-(1:Int)=d:=by omega
 rw [e]
 repeat' first
  | exact rfl
  | assumption
  | exact .refl _
  | exact .rfl
  | exact cutOk _ _
  | exact Nat.le_refl 2
  | exact inR_i64 (by omega) (by omega)
  | exact .tup (.cons wkNode (.refl _))
  | exact .tup (.cons wkZero (.refl _))
  | refine ⟨(),⟨trivial, .refl _,rfl⟩,?_⟩
  | refine ⟨(),⟨trivial, .refl _, .refl _ _⟩,?_⟩
  | refine ⟨(),⟨trivial, .refl _,hwNode⟩,?_⟩
  | refine And.intro ?_ ?_
theorem tNotE_ok (a:Int)(x:ByteArray)(r:List AV)(d:Int)(q:Nd)(ek:Int)(ea:Int)(ts':List AV)(t0:(d==(24:Int))=false)(h0:0≤d)(h1:d≤24):tNotE (Orc.f (Orc.t (Orc.f Orc.z))) a x r d q ek ea ts':=by
 rw [tNotE_vc]
 have e:d+(1:Int)-(1:Int)=d:=by omega
 rw [e]
 repeat' first
  | exact rfl
  | assumption
  | exact .refl _
  | exact .rfl
  | exact cutOk _ _
  | exact Nat.le_refl 2
  | exact inR_i64 (by omega) (by omega)
  | exact .tup (.cons wkNode (.refl _))
  | exact .tup (.cons wkZero (.refl _))
  | refine ⟨(),⟨trivial, .refl _,rfl⟩,?_⟩
  | refine ⟨(),⟨trivial, .refl _, .refl _ _⟩,?_⟩
  | refine ⟨(),⟨trivial, .refl _,hwNode⟩,?_⟩
  | refine And.intro ?_ ?_
theorem tRanN_ok (k:Int)(a:Int)(x:ByteArray)(r:List AV)(d:Int)(q:Nd)(ts':List AV)(t0:(k != (10:Int))=true)(_:0≤d)(_:d≤24):tRanN (Orc.t Orc.z) k a x r d q ts':=by
 rw [tRanN_vc]
 repeat' first
  | exact rfl
  | assumption
  | exact .refl _
  | exact .rfl
  | exact cutOk _ _
  | exact Nat.le_refl 2
  | exact inR_i64 (by omega) (by omega)
  | exact .tup (.cons wkNode (.refl _))
  | exact .tup (.cons wkZero (.refl _))
  | refine ⟨(),⟨trivial, .refl _,rfl⟩,?_⟩
  | refine ⟨(),⟨trivial, .refl _, .refl _ _⟩,?_⟩
  | refine ⟨(),⟨trivial, .refl _,hwNode⟩,?_⟩
  | refine And.intro ?_ ?_
theorem tRanE_ok (k:Int)(a:Int)(x:ByteArray)(r:List AV)(d:Int)(q:Nd)(ek:Int)(ea:Int)(ts':List AV)(t0:(k != (10:Int))=true)(_:0≤d)(_:d≤24):tRanE (Orc.t Orc.z) k a x r d q ek ea ts':=by
 rw [tRanE_vc]
 repeat' first
  | exact rfl
  | assumption
  | exact .refl _
  | exact .rfl
  | exact cutOk _ _
  | exact Nat.le_refl 2
  | exact inR_i64 (by omega) (by omega)
  | exact .tup (.cons wkNode (.refl _))
  | exact .tup (.cons wkZero (.refl _))
  | refine ⟨(),⟨trivial, .refl _,rfl⟩,?_⟩
  | refine ⟨(),⟨trivial, .refl _, .refl _ _⟩,?_⟩
  | refine ⟨(),⟨trivial, .refl _,hwNode⟩,?_⟩
  | refine And.intro ?_ ?_
theorem cXe_ok (k:Int)(a:Int)(x:ByteArray)(r:List AV)(d:Int)(n:Nd)(t0:(lookI k [Value.int IntKind.i64 (7:Int),Value.int IntKind.i64 (8:Int)] [AV.lit (Value.int IntKind.i64 (2:Int)),AV.lit (Value.int IntKind.i64 (3:Int))] != (0:Int))=false)(_:0≤d)(_:d≤24):cXe ocXe k a x r d n:=by
 rw [cXe_vc]
 repeat' first
  | exact rfl
  | assumption
  | exact .refl _
  | exact .rfl
  | exact cutOk _ _
  | exact Nat.le_refl 2
  | exact inR_i64 (by omega) (by omega)
  | exact .tup (.cons wkNode (.refl _))
  | exact .tup (.cons wkZero (.refl _))
  | refine ⟨(),⟨trivial, .refl _,rfl⟩,?_⟩
  | refine ⟨(),⟨trivial, .refl _, .refl _ _⟩,?_⟩
  | refine ⟨(),⟨trivial, .refl _,hwNode⟩,?_⟩
  | refine And.intro ?_ ?_
theorem cXt_ok (k:Int)(a:Int)(x:ByteArray)(r:List AV)(d:Int)(n:Nd)(t0:(lookI k [Value.int IntKind.i64 (9:Int)] [AV.lit (Value.int IntKind.i64 (4:Int))] != (0:Int))=false)(_:0≤d)(_:d≤24):cXt ocXt k a x r d n:=by
 rw [cXt_vc]
 repeat' first
  | exact rfl
  | assumption
  | exact .refl _
  | exact .rfl
  | exact cutOk _ _
  | exact Nat.le_refl 2
  | exact inR_i64 (by omega) (by omega)
  | exact .tup (.cons wkNode (.refl _))
  | exact .tup (.cons wkZero (.refl _))
  | refine ⟨(),⟨trivial, .refl _,rfl⟩,?_⟩
  | refine ⟨(),⟨trivial, .refl _, .refl _ _⟩,?_⟩
  | refine ⟨(),⟨trivial, .refl _,hwNode⟩,?_⟩
  | refine And.intro ?_ ?_
theorem cEe_ok (ts:List AV)(d:Int)(n:Nd)(ek:Int)(ea:Int)  (_:0≤d)(_:d≤24):cEe ocEe ts d n ek ea:=by
 rw [cEe_vc]
 repeat' first
  | exact rfl
  | assumption
  | exact .refl _
  | exact .rfl
  | exact cutOk _ _
  | exact Nat.le_refl 2
  | exact inR_i64 (by omega) (by omega)
  | exact .tup (.cons wkNode (.refl _))
  | exact .tup (.cons wkZero (.refl _))
  | refine ⟨(),⟨trivial, .refl _,rfl⟩,?_⟩
  | refine ⟨(),⟨trivial, .refl _, .refl _ _⟩,?_⟩
  | refine ⟨(),⟨trivial, .refl _,hwNode⟩,?_⟩
  | refine And.intro ?_ ?_
theorem cEt_ok (ts:List AV)(d:Int)(n:Nd)(ek:Int)(ea:Int)  (_:0≤d)(_:d≤24):cEt ocEt ts d n ek ea:=by
 rw [cEt_vc]
 repeat' first
  | exact rfl
  | assumption
  | exact .refl _
  | exact .rfl
  | exact cutOk _ _
  | exact Nat.le_refl 2
  | exact inR_i64 (by omega) (by omega)
  | exact .tup (.cons wkNode (.refl _))
  | exact .tup (.cons wkZero (.refl _))
  | refine ⟨(),⟨trivial, .refl _,rfl⟩,?_⟩
  | refine ⟨(),⟨trivial, .refl _, .refl _ _⟩,?_⟩
  | refine ⟨(),⟨trivial, .refl _,hwNode⟩,?_⟩
  | refine And.intro ?_ ?_
theorem cR7N_ok (a:Int)(x:ByteArray)(r:List AV)(d:Int)(n:Nd)(q:Nd)(us:List AV)(zs:List AV)(m:Nd)  (_:0≤d)(_:d≤24):cR7N ocR7N a x r d n q us zs m:=by
 rw [cR7N_vc]
 repeat' first
  | exact rfl
  | assumption
  | exact .refl _
  | exact .rfl
  | exact cutOk _ _
  | exact Nat.le_refl 2
  | exact inR_i64 (by omega) (by omega)
  | exact .tup (.cons wkNode (.refl _))
  | exact .tup (.cons wkZero (.refl _))
  | refine ⟨(),⟨trivial, .refl _,rfl⟩,?_⟩
  | refine ⟨(),⟨trivial, .refl _, .refl _ _⟩,?_⟩
  | refine ⟨(),⟨trivial, .refl _,hwNode⟩,?_⟩
  | refine And.intro ?_ ?_
theorem cR7F_ok (a:Int)(x:ByteArray)(r:List AV)(d:Int)(n:Nd)(q:Nd)(us:List AV)(zs:List AV)(m:Nd)(fk:Int)(fa:Int)  (_:0≤d)(_:d≤24):cR7F ocR7F a x r d n q us zs m fk fa:=by
 rw [cR7F_vc]
 repeat' first
  | exact rfl
  | assumption
  | exact .refl _
  | exact .rfl
  | exact cutOk _ _
  | exact Nat.le_refl 2
  | exact inR_i64 (by omega) (by omega)
  | exact .tup (.cons wkNode (.refl _))
  | exact .tup (.cons wkZero (.refl _))
  | refine ⟨(),⟨trivial, .refl _,rfl⟩,?_⟩
  | refine ⟨(),⟨trivial, .refl _, .refl _ _⟩,?_⟩
  | refine ⟨(),⟨trivial, .refl _,hwNode⟩,?_⟩
  | refine And.intro ?_ ?_
theorem cR7E_ok (a:Int)(x:ByteArray)(r:List AV)(d:Int)(n:Nd)(q:Nd)(us:List AV)(zs:List AV)(m:Nd)(ek:Int)(ea:Int)(fk:Int)(fa:Int)  (_:0≤d)(_:d≤24):cR7E ocR7E a x r d n q us zs m ek ea fk fa:=by
 rw [cR7E_vc]
 repeat' first
  | exact rfl
  | assumption
  | exact .refl _
  | exact .rfl
  | exact cutOk _ _
  | exact Nat.le_refl 2
  | exact inR_i64 (by omega) (by omega)
  | exact .tup (.cons wkNode (.refl _))
  | exact .tup (.cons wkZero (.refl _))
  | refine ⟨(),⟨trivial, .refl _,rfl⟩,?_⟩
  | refine ⟨(),⟨trivial, .refl _, .refl _ _⟩,?_⟩
  | refine ⟨(),⟨trivial, .refl _,hwNode⟩,?_⟩
  | refine And.intro ?_ ?_
theorem cR8N_ok (a:Int)(x:ByteArray)(r:List AV)(d:Int)(n:Nd)(q:Nd)(us:List AV)(zs:List AV)(m:Nd)  (_:0≤d)(_:d≤24):cR8N ocR8N a x r d n q us zs m:=by
 rw [cR8N_vc]
 repeat' first
  | exact rfl
  | assumption
  | exact .refl _
  | exact .rfl
  | exact cutOk _ _
  | exact Nat.le_refl 2
  | exact inR_i64 (by omega) (by omega)
  | exact .tup (.cons wkNode (.refl _))
  | exact .tup (.cons wkZero (.refl _))
  | refine ⟨(),⟨trivial, .refl _,rfl⟩,?_⟩
  | refine ⟨(),⟨trivial, .refl _, .refl _ _⟩,?_⟩
  | refine ⟨(),⟨trivial, .refl _,hwNode⟩,?_⟩
  | refine And.intro ?_ ?_
theorem cR8F_ok (a:Int)(x:ByteArray)(r:List AV)(d:Int)(n:Nd)(q:Nd)(us:List AV)(zs:List AV)(m:Nd)(fk:Int)(fa:Int)  (_:0≤d)(_:d≤24):cR8F ocR8F a x r d n q us zs m fk fa:=by
 rw [cR8F_vc]
 repeat' first
  | exact rfl
  | assumption
  | exact .refl _
  | exact .rfl
  | exact cutOk _ _
  | exact Nat.le_refl 2
  | exact inR_i64 (by omega) (by omega)
  | exact .tup (.cons wkNode (.refl _))
  | exact .tup (.cons wkZero (.refl _))
  | refine ⟨(),⟨trivial, .refl _,rfl⟩,?_⟩
  | refine ⟨(),⟨trivial, .refl _, .refl _ _⟩,?_⟩
  | refine ⟨(),⟨trivial, .refl _,hwNode⟩,?_⟩
  | refine And.intro ?_ ?_
theorem cR8E_ok (a:Int)(x:ByteArray)(r:List AV)(d:Int)(n:Nd)(q:Nd)(us:List AV)(zs:List AV)(m:Nd)(ek:Int)(ea:Int)(fk:Int)(fa:Int)  (_:0≤d)(_:d≤24):cR8E ocR8E a x r d n q us zs m ek ea fk fa:=by
 rw [cR8E_vc]
 repeat' first
  | exact rfl
  | assumption
  | exact .refl _
  | exact .rfl
  | exact cutOk _ _
  | exact Nat.le_refl 2
  | exact inR_i64 (by omega) (by omega)
  | exact .tup (.cons wkNode (.refl _))
  | exact .tup (.cons wkZero (.refl _))
  | refine ⟨(),⟨trivial, .refl _,rfl⟩,?_⟩
  | refine ⟨(),⟨trivial, .refl _, .refl _ _⟩,?_⟩
  | refine ⟨(),⟨trivial, .refl _,hwNode⟩,?_⟩
  | refine And.intro ?_ ?_
theorem cR9N_ok (a:Int)(x:ByteArray)(r:List AV)(d:Int)(n:Nd)(q:Nd)(us:List AV)(zs:List AV)(m:Nd)  (_:0≤d)(_:d≤24):cR9N ocR9N a x r d n q us zs m:=by
 rw [cR9N_vc]
 repeat' first
  | exact rfl
  | assumption
  | exact .refl _
  | exact .rfl
  | exact cutOk _ _
  | exact Nat.le_refl 2
  | exact inR_i64 (by omega) (by omega)
  | exact .tup (.cons wkNode (.refl _))
  | exact .tup (.cons wkZero (.refl _))
  | refine ⟨(),⟨trivial, .refl _,rfl⟩,?_⟩
  | refine ⟨(),⟨trivial, .refl _, .refl _ _⟩,?_⟩
  | refine ⟨(),⟨trivial, .refl _,hwNode⟩,?_⟩
  | refine And.intro ?_ ?_
theorem cR9F_ok (a:Int)(x:ByteArray)(r:List AV)(d:Int)(n:Nd)(q:Nd)(us:List AV)(zs:List AV)(m:Nd)(fk:Int)(fa:Int)  (_:0≤d)(_:d≤24):cR9F ocR9F a x r d n q us zs m fk fa:=by
 rw [cR9F_vc]
 repeat' first
  | exact rfl
  | assumption
  | exact .refl _
  | exact .rfl
  | exact cutOk _ _
  | exact Nat.le_refl 2
  | exact inR_i64 (by omega) (by omega)
  | exact .tup (.cons wkNode (.refl _))
  | exact .tup (.cons wkZero (.refl _))
  | refine ⟨(),⟨trivial, .refl _,rfl⟩,?_⟩
  | refine ⟨(),⟨trivial, .refl _, .refl _ _⟩,?_⟩
  | refine ⟨(),⟨trivial, .refl _,hwNode⟩,?_⟩
  | refine And.intro ?_ ?_
theorem cR9E_ok (a:Int)(x:ByteArray)(r:List AV)(d:Int)(n:Nd)(q:Nd)(us:List AV)(zs:List AV)(m:Nd)(ek:Int)(ea:Int)(fk:Int)(fa:Int)  (_:0≤d)(_:d≤24):cR9E ocR9E a x r d n q us zs m ek ea fk fa:=by
 rw [cR9E_vc]
 repeat' first
  | exact rfl
  | assumption
  | exact .refl _
  | exact .rfl
  | exact cutOk _ _
  | exact Nat.le_refl 2
  | exact inR_i64 (by omega) (by omega)
  | exact .tup (.cons wkNode (.refl _))
  | exact .tup (.cons wkZero (.refl _))
  | refine ⟨(),⟨trivial, .refl _,rfl⟩,?_⟩
  | refine ⟨(),⟨trivial, .refl _, .refl _ _⟩,?_⟩
  | refine ⟨(),⟨trivial, .refl _,hwNode⟩,?_⟩
  | refine And.intro ?_ ?_
theorem gExN_ok (ts:List AV)(us:List AV)(d:Int)(q:Nd)(zs:List AV)(m:Nd)  (_:0≤d)(_:d≤24):gExN (Orc.z) ts us d q zs m:=by
 rw [gExN_vc]
 repeat' first
  | exact rfl
  | assumption
  | exact .refl _
  | exact .rfl
  | exact cutOk _ _
  | exact Nat.le_refl 2
  | exact inR_i64 (by omega) (by omega)
  | exact .tup (.cons wkNode (.refl _))
  | exact .tup (.cons wkZero (.refl _))
  | refine ⟨(),⟨trivial, .refl _,rfl⟩,?_⟩
  | refine ⟨(),⟨trivial, .refl _, .refl _ _⟩,?_⟩
  | refine ⟨(),⟨trivial, .refl _,hwNode⟩,?_⟩
  | refine And.intro ?_ ?_
theorem gExF_ok (ts:List AV)(us:List AV)(d:Int)(q:Nd)(zs:List AV)(m:Nd)(fk:Int)(fa:Int)  (_:0≤d)(_:d≤24):gExF (Orc.z) ts us d q zs m fk fa:=by
 rw [gExF_vc]
 repeat' first
  | exact rfl
  | assumption
  | exact .refl _
  | exact .rfl
  | exact cutOk _ _
  | exact Nat.le_refl 2
  | exact inR_i64 (by omega) (by omega)
  | exact .tup (.cons wkNode (.refl _))
  | exact .tup (.cons wkZero (.refl _))
  | refine ⟨(),⟨trivial, .refl _,rfl⟩,?_⟩
  | refine ⟨(),⟨trivial, .refl _, .refl _ _⟩,?_⟩
  | refine ⟨(),⟨trivial, .refl _,hwNode⟩,?_⟩
  | refine And.intro ?_ ?_
theorem gExE_ok (ts:List AV)(us:List AV)(d:Int)(q:Nd)(zs:List AV)(m:Nd)(ek:Int)(ea:Int)(fk:Int)(fa:Int)  (_:0≤d)(_:d≤24):gExE (Orc.z) ts us d q zs m ek ea fk fa:=by
 rw [gExE_vc]
 repeat' first
  | exact rfl
  | assumption
  | exact .refl _
  | exact .rfl
  | exact cutOk _ _
  | exact Nat.le_refl 2
  | exact inR_i64 (by omega) (by omega)
  | exact .tup (.cons wkNode (.refl _))
  | exact .tup (.cons wkZero (.refl _))
  | refine ⟨(),⟨trivial, .refl _,rfl⟩,?_⟩
  | refine ⟨(),⟨trivial, .refl _, .refl _ _⟩,?_⟩
  | refine ⟨(),⟨trivial, .refl _,hwNode⟩,?_⟩
  | refine And.intro ?_ ?_
theorem gTeN_ok (ts:List AV)(us:List AV)(d:Int)(q:Nd)(zs:List AV)(m:Nd)  (_:0≤d)(_:d≤24):gTeN (Orc.z) ts us d q zs m:=by
 rw [gTeN_vc]
 repeat' first
  | exact rfl
  | assumption
  | exact .refl _
  | exact .rfl
  | exact cutOk _ _
  | exact Nat.le_refl 2
  | exact inR_i64 (by omega) (by omega)
  | exact .tup (.cons wkNode (.refl _))
  | exact .tup (.cons wkZero (.refl _))
  | refine ⟨(),⟨trivial, .refl _,rfl⟩,?_⟩
  | refine ⟨(),⟨trivial, .refl _, .refl _ _⟩,?_⟩
  | refine ⟨(),⟨trivial, .refl _,hwNode⟩,?_⟩
  | refine And.intro ?_ ?_
theorem gTeF_ok (ts:List AV)(us:List AV)(d:Int)(q:Nd)(zs:List AV)(m:Nd)(fk:Int)(fa:Int)  (_:0≤d)(_:d≤24):gTeF (Orc.z) ts us d q zs m fk fa:=by
 rw [gTeF_vc]
 repeat' first
  | exact rfl
  | assumption
  | exact .refl _
  | exact .rfl
  | exact cutOk _ _
  | exact Nat.le_refl 2
  | exact inR_i64 (by omega) (by omega)
  | exact .tup (.cons wkNode (.refl _))
  | exact .tup (.cons wkZero (.refl _))
  | refine ⟨(),⟨trivial, .refl _,rfl⟩,?_⟩
  | refine ⟨(),⟨trivial, .refl _, .refl _ _⟩,?_⟩
  | refine ⟨(),⟨trivial, .refl _,hwNode⟩,?_⟩
  | refine And.intro ?_ ?_
theorem gTeE_ok (ts:List AV)(us:List AV)(d:Int)(q:Nd)(zs:List AV)(m:Nd)(ek:Int)(ea:Int)(fk:Int)(fa:Int)  (_:0≤d)(_:d≤24):gTeE (Orc.z) ts us d q zs m ek ea fk fa:=by
 rw [gTeE_vc]
 repeat' first
  | exact rfl
  | assumption
  | exact .refl _
  | exact .rfl
  | exact cutOk _ _
  | exact Nat.le_refl 2
  | exact inR_i64 (by omega) (by omega)
  | exact .tup (.cons wkNode (.refl _))
  | exact .tup (.cons wkZero (.refl _))
  | refine ⟨(),⟨trivial, .refl _,rfl⟩,?_⟩
  | refine ⟨(),⟨trivial, .refl _, .refl _ _⟩,?_⟩
  | refine ⟨(),⟨trivial, .refl _,hwNode⟩,?_⟩
  | refine And.intro ?_ ?_
end
end Go.Proofs.YtpofhijgccocpaaGreatDoor
end
section
namespace Go.Proofs.YtpofhijgccocpaaGreatDoor
open Go.AS Go.TP
noncomputable section
def gForm (os:Orc)(w:ByteArray)(v:Int):Prop:=gF XB [fForm] fForm os [s0 w] (i0 v)
end
end Go.Proofs.YtpofhijgccocpaaGreatDoor
end
section
namespace Go.Proofs.YtpofhijgccocpaaGreatDoor
open Go Go.AS Go.TP
def ogForm:Orc:=Orc.s (Orc.t Orc.z) (Orc.s (Orc.t Orc.z) (Orc.s Orc.z (Orc.s (Orc.t Orc.z) (Orc.s (Orc.t Orc.z) (Orc.s (Orc.t Orc.z) (Orc.s (Orc.t Orc.z) (Orc.s (Orc.t Orc.z) (Orc.s Orc.z (Orc.s (Orc.t Orc.z) (Orc.s (Orc.t Orc.z) (Orc.s Orc.z Orc.z)))))))))))
theorem gForm_vc (w:ByteArray)(v:Int):gForm ogForm w v=(let z1:=(i0 (2:Int)); let z2:=(ByteArray.toList w==ByteArray.toList wChildren); let z3:=(ByteArray.toList w==ByteArray.toList wParents); let z4:=(ByteArray.toList w==ByteArray.toList wMaster); let z5:=(ByteArray.toList w==ByteArray.toList wHeads); let z6:=(ByteArray.toList w==ByteArray.toList wRoots); let z7:=(ByteArray.toList w==ByteArray.toList wFirst); let z8:=(ByteArray.toList w==ByteArray.toList wLimit); let z9:=(ByteArray.toList w==ByteArray.toList wNone); let z10:=(ByteArray.toList w==ByteArray.toList wDesc); let z11:=(ByteArray.toList w==ByteArray.toList wLast); let z12:=(ByteArray.toList w==ByteArray.toList wAll); let z13:=(ByteArray.toList w==ByteArray.toList wAnc); (z12=true→Yt (Wk (i0 (1:Int)) (i0 v)∧SameH (hpL []) (hpL [])))∧(z12=false→(z9=true→Yt (Wk (i0 (1:Int)) (i0 v)∧SameH (hpL []) (hpL [])))∧(z9=false→(z4=true→Wk (i0 (1:Int)) (i0 v)∧SameH (hpL []) (hpL []))∧(z4=false→(z3=true→Yt (Wk z1 (i0 v)∧SameH (hpL []) (hpL [])))∧(z3=false→(z2=true→Yt (Wk z1 (i0 v)∧SameH (hpL []) (hpL [])))∧(z2=false→(z13=true→Yt (Wk z1 (i0 v)∧SameH (hpL []) (hpL [])))∧(z13=false→(z10=true→Yt (Wk z1 (i0 v)∧SameH (hpL []) (hpL [])))∧(z10=false→(z5=true→Yt (Wk z1 (i0 v)∧SameH (hpL []) (hpL [])))∧(z5=false→(z6=true→Wk z1 (i0 v)∧SameH (hpL []) (hpL []))∧(z6=false→(z7=true→Yt (Wk (i0 (3:Int)) (i0 v)∧SameH (hpL []) (hpL [])))∧(z7=false→(z11=true→Yt (Wk (i0 (3:Int)) (i0 v)∧SameH (hpL []) (hpL [])))∧(z11=false→(z8=true→Wk (i0 (3:Int)) (i0 v)∧SameH (hpL []) (hpL []))∧(z8=false→Wk (i0 (0:Int)) (i0 v)∧SameH (hpL []) (hpL [])))))))))))))):=by kernel_rfl
end Go.Proofs.YtpofhijgccocpaaGreatDoor
end
section
namespace Go.Proofs.YtpofhijgccocpaaGreatDoor
open Go.AS Go.TP
noncomputable section
theorem formS_eq (w:ByteArray):formS w=if w=wAll∨w=wNone∨w=wMaster then 1 else if w=wParents∨w=wChildren∨w=wAnc∨w=wDesc∨w=wHeads∨w=wRoots then 2 else if w=wFirst∨w=wLast∨w=wLimit then 3 else 0:=rfl
theorem gForm_ok (w:ByteArray):gForm ogForm w (formS w):=by
 rw [gForm_vc,formS_eq,strEq' w wAll,strEq' w wNone,strEq' w wMaster,strEq' w wParents,strEq' w wChildren,strEq' w wAnc,strEq' w wDesc,strEq' w wHeads,strEq' w wRoots,strEq' w wFirst,strEq' w wLast,strEq' w wLimit]
 refine ⟨fun p => ?_,fun n0 => ?_⟩
 · have p:=of_decide_eq_true p; rw [if_pos (.inl p)]; exact ⟨rfl, .refl _, .rfl⟩
 replace n0:=of_decide_eq_false n0
 refine ⟨fun p => ?_,fun n1 => ?_⟩
 · have p:=of_decide_eq_true p; rw [if_pos (.inr (.inl p))]; exact ⟨rfl, .refl _, .rfl⟩
 replace n1:=of_decide_eq_false n1
 refine ⟨fun p => ?_,fun n2 => ?_⟩
 · have p:=of_decide_eq_true p; rw [if_pos (.inr (.inr p))]; exact ⟨.refl _, .rfl⟩
 replace n2:=of_decide_eq_false n2
 refine ⟨fun p => ?_,fun n3 => ?_⟩
 · have p:=of_decide_eq_true p; rw [if_neg (fun q=>q.elim n0 (fun q=>q.elim n1 n2))]; rw [if_pos (.inl p)]; exact ⟨rfl, .refl _, .rfl⟩
 replace n3:=of_decide_eq_false n3
 refine ⟨fun p => ?_,fun n4 => ?_⟩
 · have p:=of_decide_eq_true p; rw [if_neg (fun q=>q.elim n0 (fun q=>q.elim n1 n2))]; rw [if_pos (.inr (.inl p))]; exact ⟨rfl, .refl _, .rfl⟩
 replace n4:=of_decide_eq_false n4
 refine ⟨fun p => ?_,fun n5 => ?_⟩
 · have p:=of_decide_eq_true p; rw [if_neg (fun q=>q.elim n0 (fun q=>q.elim n1 n2))]; rw [if_pos (.inr (.inr (.inl p)))]; exact ⟨rfl, .refl _, .rfl⟩
 replace n5:=of_decide_eq_false n5
 refine ⟨fun p => ?_,fun n6 => ?_⟩
 · have p:=of_decide_eq_true p; rw [if_neg (fun q=>q.elim n0 (fun q=>q.elim n1 n2))]; rw [if_pos (.inr (.inr (.inr (.inl p))))]; exact ⟨rfl, .refl _, .rfl⟩
 replace n6:=of_decide_eq_false n6
 refine ⟨fun p => ?_,fun n7 => ?_⟩
 · have p:=of_decide_eq_true p; rw [if_neg (fun q=>q.elim n0 (fun q=>q.elim n1 n2))]; rw [if_pos (.inr (.inr (.inr (.inr (.inl p)))))]; exact ⟨rfl, .refl _, .rfl⟩
 replace n7:=of_decide_eq_false n7
 refine ⟨fun p => ?_,fun n8 => ?_⟩
 · have p:=of_decide_eq_true p; rw [if_neg (fun q=>q.elim n0 (fun q=>q.elim n1 n2))]; rw [if_pos (.inr (.inr (.inr (.inr (.inr p)))))]; exact ⟨.refl _, .rfl⟩
 replace n8:=of_decide_eq_false n8
 refine ⟨fun p => ?_,fun n9 => ?_⟩
 · have p:=of_decide_eq_true p; rw [if_neg (fun q=>q.elim n0 (fun q=>q.elim n1 n2))]; rw [if_neg (fun q=>q.elim n3 (fun q=>q.elim n4 (fun q=>q.elim n5 (fun q=>q.elim n6 (fun q=>q.elim n7 n8)))))]; rw [if_pos (.inl p)]; exact ⟨rfl, .refl _, .rfl⟩
 replace n9:=of_decide_eq_false n9
 refine ⟨fun p => ?_,fun n10 => ?_⟩
 · have p:=of_decide_eq_true p; rw [if_neg (fun q=>q.elim n0 (fun q=>q.elim n1 n2))]; rw [if_neg (fun q=>q.elim n3 (fun q=>q.elim n4 (fun q=>q.elim n5 (fun q=>q.elim n6 (fun q=>q.elim n7 n8)))))]; rw [if_pos (.inr (.inl p))]; exact ⟨rfl, .refl _, .rfl⟩
 replace n10:=of_decide_eq_false n10
 refine ⟨fun p => ?_,fun n11 => ?_⟩
 · have p:=of_decide_eq_true p; rw [if_neg (fun q=>q.elim n0 (fun q=>q.elim n1 n2))]; rw [if_neg (fun q=>q.elim n3 (fun q=>q.elim n4 (fun q=>q.elim n5 (fun q=>q.elim n6 (fun q=>q.elim n7 n8)))))]; rw [if_pos (.inr (.inr p))]; exact ⟨.refl _, .rfl⟩
 replace n11:=of_decide_eq_false n11
 rw [if_neg (fun q=>q.elim n0 (fun q=>q.elim n1 n2))]; rw [if_neg (fun q=>q.elim n3 (fun q=>q.elim n4 (fun q=>q.elim n5 (fun q=>q.elim n6 (fun q=>q.elim n7 n8)))))]; rw [if_neg (fun q=>q.elim n9 (fun q=>q.elim n10 n11))]; exact ⟨.refl _, .rfl⟩
set_option maxRecDepth 100000 in
theorem form_ok (w:ByteArray):F fForm [s0 w] (i0 (formS w)):=F_ok XB_ok rfl (by kernel_rfl) (by kernel_rfl) (by kernel_rfl) (gForm_ok w)
end
end Go.Proofs.YtpofhijgccocpaaGreatDoor
end
section
namespace Go.TP
open Go.AS
def okT:List Tk→Prop
 | []=>False
 | t::r=>t.text.size≤600∧match r with
  | []=>t.kind=11
  | _::_=>t.kind≠11∧okT r
theorem okT_ne {ts:List Tk}(h:okT ts):ts≠[]:=by rintro rfl; exact h
theorem okT_cons {t:Tk}{r:List Tk}(h:okT (t::r))(hk:t.kind≠11):okT r:=by
 unfold okT at h
 cases r with
 | nil=>exact absurd h.2 hk
 | cons u r=>exact h.2.2
theorem okT_size {t:Tk}{r:List Tk}(h:okT (t::r)):t.text.size≤600:=by unfold okT at h; exact h.1
theorem takeT_cons {t:Tk}{r:List Tk}(hk:t.kind≠11):takeT (t::r)=r:=if_neg hk
theorem takeT_ok {ts:List Tk}(h:okT ts):okT (takeT ts)∧(takeT ts).length≤ts.length:=by
 cases ts with
 | nil=>exact h.elim
 | cons t r =>
  show okT (if t.kind=11 then t::r else r)∧(if t.kind=11 then t::r else r).length≤(t::r).length
  by_cases hk:t.kind=11
  · rw [if_pos hk]; exact ⟨h,Nat.le_refl _⟩
  · rw [if_neg hk]; exact ⟨okT_cons h hk,by rw [List.length_cons]; omega⟩
def Inv (ts:List Tk)(r:R):Prop:=okT r.ts∧r.ts.length≤ts.length
theorem Inv.refl {ts:List Tk}{n:Nd}{e:Option (Int × Int)}(h:okT ts):Inv ts ⟨n,e,ts⟩:=⟨h,Nat.le_refl _⟩
theorem Inv.of {ts us:List Tk}{r:R}(h:Inv us r)(hl:us.length≤ts.length):Inv ts r:=⟨h.1,Nat.le_trans h.2 hl⟩
theorem Inv.mk' {ts:List Tk}{r:R}(h:Inv ts r){n:Nd}{e:Option (Int × Int)}:Inv ts ⟨n,e,r.ts⟩:=h
theorem chain_inv {part:List Tk→R}(hp:∀ ts,okT ts→Inv ts (part ts))(km:Int→Int):∀ (n:Nat)(r:R),okT r.ts→Inv r.ts (chainS part km n r)
 | 0,r,h=>by rw [chainS]; exact ⟨h,Nat.le_refl _⟩
 | n+1,r,h=>by
  rw [chainS]
  split
  · have h1:=takeT_ok h
    have h2:=hp _ h1.1
    exact (chain_inv hp km n ⟨.mk (km (headT r.ts).kind) (headT r.ts).at_ 0 ByteArray.empty [r.n,(part (takeT r.ts)).n],(part (takeT r.ts)).e,(part (takeT r.ts)).ts⟩ h2.1).of (Nat.le_trans h2.2 h1.2)
  · exact ⟨h,Nat.le_refl _⟩
theorem expect_inv {k:Int}{ts:List Tk}(h:okT ts):okT (expectS k ts).2∧(expectS k ts).2.length≤ts.length:=by
 unfold expectS
 split
 · exact takeT_ok h
 · exact ⟨h,Nat.le_refl _⟩
theorem within_inv {d:Int}{t:Tk}{n0:Nd}{ts us:List Tk}{f:Int→List Tk→R}(h:okT us)(hl:us.length≤ts.length)(hf:Inv ts (f (d+1) us)):Inv ts (withinS d t n0 us f):=by
 unfold withinS
 split
 · exact ⟨h,hl⟩
 · exact hf
theorem PF_inv:∀ (f:Nat)(lv:Lv)(d:Int)(ts:List Tk),okT ts→Inv ts (PF f lv d ts)
 | 0,_,_,ts,h=>by rw [PF]; exact .refl h
 | f+1, .expr,d,ts,h=>by
  rw [PF]
  have h1:=PF_inv f .term d ts h
  exact (chain_inv (fun us hu=>PF_inv f .term d us hu) kmE f _ h1.1).of h1.2
 | f+1, .term,d,ts,h=>by
  rw [PF]
  have h1:=PF_inv f .part d ts h
  exact (chain_inv (fun us hu=>PF_inv f .part d us hu) kmT f _ h1.1).of h1.2
 | f+1, .part,d,ts,h=>by
  rw [PF]
  simp only
  split
  · exact PF_inv f .ranged d ts h
  · have h1:=takeT_ok h
    exact within_inv h1.1 h1.2 ((PF_inv f .part (d+1) _ h1.1).of h1.2)
 | f+1, .ranged,d,ts,h=>by
  rw [PF]
  simp only
  have h1:=takeT_ok h
  split
  · exact within_inv h1.1 h1.2 ((PF_inv f .atom (d+1) _ h1.1).of h1.2)
  · have h2:=PF_inv f .atom d ts h
    have second:∀ (d:Int)(us:List Tk)(k a:Int)(n:Nd)(m:Bool),okT us→us.length≤ts.length→Inv ts (secondS (PF f .atom d) k a n m us):=fun d us k a n m hu hl=>by
      unfold secondS
      split
      · exact ⟨hu,hl⟩
      · exact (PF_inv f .atom d us hu).of hl
    have h3:=takeT_ok h2.1
    split
    · exact h2
    · split
      · exact within_inv h3.1 (Nat.le_trans h3.2 h2.2) (second _ _ _ _ _ _ h3.1 (Nat.le_trans h3.2 h2.2))
      · split
        · exact second _ _ _ _ _ _ h3.1 (Nat.le_trans h3.2 h2.2)
        · exact h2
 | f+1, .atom,d,ts,h=>by
  rw [PF]
  simp only
  have h1:=takeT_ok h
  have h3:=takeT_ok h1.1
  split
  · refine within_inv h1.1 h1.2 ?_
    have h2:=PF_inv f .expr (d+1) _ h1.1
    split
    · exact h2.of h1.2
    · have h4:=expect_inv (k:=3) h2.1
      exact ⟨h4.1,Nat.le_trans h4.2 (Nat.le_trans h2.2 h1.2)⟩
  · split
    · split
      · unfold callS
        simp only
        split
        · exact ⟨h1.1,h1.2⟩
        · refine within_inv h3.1 (Nat.le_trans h3.2 h1.2) ?_
          have l3:=Nat.le_trans h3.2 h1.2
          split
          · have h4:=expect_inv (k:=3) h3.1
            exact ⟨h4.1,Nat.le_trans h4.2 l3⟩
          · have h2:=PF_inv f .expr (d+1) _ h3.1
            have l2:=Nat.le_trans h2.2 l3
            split
            · exact ⟨h2.1,l2⟩
            · split
              · have h4:=expect_inv (k:=3) h2.1
                exact ⟨h4.1,Nat.le_trans h4.2 l2⟩
              · have h4:=expect_inv (k:=4) h2.1
                have l4:=Nat.le_trans h4.2 l2
                split
                · exact ⟨h4.1,l4⟩
                · split
                  · exact ⟨h4.1,l4⟩
                  · have h5:=takeT_ok h4.1
                    have h6:=expect_inv (k:=3) h5.1
                    exact ⟨h6.1,Nat.le_trans h6.2 (Nat.le_trans h5.2 l4)⟩
      · split
        · exact ⟨h1.1,h1.2⟩
        · exact ⟨h1.1,h1.2⟩
    · exact ⟨h,Nat.le_refl _⟩
end Go.TP
namespace Go.TP
theorem PF_atom (f:Nat)(d k a:Int)(x:ByteArray)(r:List Tk):PF (f+1) .atom d (⟨k,a,x⟩::r) =
  if k=2 then withinS d ⟨k,a,x⟩ .zero (takeT (⟨k,a,x⟩::r)) fun d ts =>
   let q:=PF f .expr d ts
   if q.e≠none then q else let x:=expectS 3 q.ts; ⟨q.n,x.1,x.2⟩
  else if k=1 then
   if (headT (takeT (⟨k,a,x⟩::r))).kind=2 then callS (fun d ts=>PF f .expr d ts) d ⟨k,a,x⟩ (takeT (⟨k,a,x⟩::r))
   else if isPrefixS x then ⟨.mk 1 a 0 x [],none,takeT (⟨k,a,x⟩::r)⟩
   else ⟨.zero,some (15,a),takeT (⟨k,a,x⟩::r)⟩
  else ⟨.zero,some (15,a),⟨k,a,x⟩::r⟩:=by rw [PF]; rfl
theorem PF_ranged (f:Nat)(d k a:Int)(x:ByteArray)(r:List Tk):PF (f+1) .ranged d (⟨k,a,x⟩::r) =
  if k=5 then withinS d ⟨k,a,x⟩ (.mk 6 a 0 ByteArray.empty []) (takeT (⟨k,a,x⟩::r)) fun d ts=>⟨.mk 6 a 0 ByteArray.empty [(PF f .atom d ts).n],(PF f .atom d ts).e,(PF f .atom d ts).ts⟩
  else
   let q:=PF f .atom d (⟨k,a,x⟩::r)
   if q.e≠none then q
   else
    let u:=headT q.ts
    if u.kind=5 then withinS d u (.mk 8 u.at_ 0 ByteArray.empty [q.n]) (takeT q.ts) fun d ts=>secondS (PF f .atom d) 8 u.at_ q.n false ts
    else if u.kind=6 then secondS (PF f .atom d) 9 u.at_ q.n true (takeT q.ts)
    else ⟨q.n,none,q.ts⟩:=by rw [PF]; rfl
theorem PF_part (f:Nat)(d k a:Int)(x:ByteArray)(r:List Tk):PF (f+1) .part d (⟨k,a,x⟩::r) =
  if k≠10 then PF f .ranged d (⟨k,a,x⟩::r)
  else withinS d ⟨k,a,x⟩ (.mk 5 a 0 ByteArray.empty []) (takeT (⟨k,a,x⟩::r)) fun d ts=>⟨.mk 5 a 0 ByteArray.empty [(PF f .part d ts).n],(PF f .part d ts).e,(PF f .part d ts).ts⟩:=by rw [PF]; rfl
theorem callS_eq (expr:Int→List Tk→R)(d:Int)(w u:Tk)(r:List Tk):callS expr d w (u::r) =
  if formS w.text=0 then ⟨.zero,some (15,w.at_),u::r⟩
  else withinS d u .zero (takeT (u::r)) fun d ts =>
   if formS w.text=1 then ⟨.mk 10 w.at_ 0 w.text [],(expectS 3 ts).1,(expectS 3 ts).2⟩
   else
    let q:=expr d ts
    if q.e≠none then ⟨.mk 10 w.at_ 0 w.text [q.n],q.e,q.ts⟩
    else if formS w.text=2 then ⟨.mk 10 w.at_ 0 w.text [q.n],(expectS 3 q.ts).1,(expectS 3 q.ts).2⟩
    else
     let x:=expectS 4 q.ts
     if x.1≠none then ⟨.mk 10 w.at_ 0 w.text [q.n],x.1,x.2⟩
     else match numberS (headT x.2) with
      | none=>⟨.mk 10 w.at_ 0 w.text [q.n],wrongT x.2,x.2⟩
      | some k=>⟨.mk 10 w.at_ k w.text [q.n],(expectS 3 (takeT x.2)).1,(expectS 3 (takeT x.2)).2⟩:=rfl
end Go.TP
end
section
namespace Go.Proofs.YtpofhijgccocpaaGreatDoor
open Go.AS Go.TP
noncomputable section
def encE:Option (Int × Int)→AV
 | none=>nilE
 | some (k,a)=>encErr k a
def fnLv:Lv→Nat
 | .expr=>fPExpr
 | .term=>fPTerm
 | .part=>fPPart
 | .ranged=>fPRanged
 | .atom=>fPAtom
def offLv:Lv→Nat
 | .expr=>5
 | .term=>4
 | .part=>3
 | .ranged=>2
 | .atom=>1
abbrev PR (f:Nat)(d:Int)(ts:List Tk)(r:R):Prop:=FOk Tryz.prog gl0 f [pArg] (pHeap (ts.map encT) d) (pOut (r.ts.map encT) d (encP r.n) (encE r.e))
def PFOk (f:Nat):Prop:=∀ lv d ts,0≤d→d≤24→okT ts→5*ts.length+offLv lv≤f→PR (fnLv lv) d ts (PF f lv d ts)
theorem encL_one (n:Nd):encL [n]=[encP n]:=by rw [encP_eq]; rfl
theorem encL_two (n m:Nd):encL [n,m]=[encP n,encP m]:=by rw [encP_eq,encP_eq]; rfl
theorem node1 (k a m:Int)(t:ByteArray)(n:Nd):encP (.mk k a m t [n])=nodeV k a m t [encP n]:=by
 show nodeV k a m t (encL [n])=_
 rw [encL_one]
theorem node2 (k a m:Int)(t:ByteArray)(n q:Nd):encP (.mk k a m t [n,q])=nodeV k a m t [encP n,encP q]:=by
 show nodeV k a m t (encL [n,q])=_
 rw [encL_two]
attribute [local irreducible] runF in
set_option maxRecDepth 100000 in
theorem gP_ok {X:WX}(hX:X.Sound)(hp:X.px=X0){f:Nat}(hs:(Tryz.prog.funcs[f]?).isSome=true)(hb:(fn f).body=some (code f))(hn:((fn f).name == "runtime.NumGoroutine")=false){os:Orc}{fz:Nat}{xs:List AV}{σ:Hp}{r:Back}
  (h:runF (X.ask askP) 14 f (fn f) (code f) os fz [] xs σ r):FOk Tryz.prog gl0 f xs σ r:=by
 have hP:X.px.P=Tryz.prog:=by rw [hp]; rfl
 have hg:X.px.gl=gl0:=by rw [hp]; rfl
 have:=fn_ok (X:=X.ask askP) (d:=14) (hX.ask askP) (f:=f) (fn:=fn f) (code:=code f) (by show X.px.P.funcs[f]?=_; rw [hP]; exact fnOk f hs) hb hn h
 show FOk Tryz.prog gl0 f xs σ r
 rw [←hg,←hP]; exact this
attribute [local irreducible] runF in
set_option maxRecDepth 100000 in
theorem atomOk {X:WX}(hX:X.Sound)(hp:X.px=X0){os:Orc}{ts ts':List AV}{d:Int}{n e:AV}(h:gP X fPAtom os ts ts' d n e):FOk Tryz.prog gl0 fPAtom [pArg] (pHeap ts d) (pOut ts' d n e) :=
 gP_ok hX hp (by kernel_rfl) (show (fn fPAtom).body=some (code fPAtom) by kernel_rfl) (by kernel_rfl) h
attribute [local irreducible] runF in
set_option maxRecDepth 100000 in
theorem rangedOk {X:WX}(hX:X.Sound)(hp:X.px=X0){os:Orc}{ts ts':List AV}{d:Int}{n e:AV}(h:gP X fPRanged os ts ts' d n e):FOk Tryz.prog gl0 fPRanged [pArg] (pHeap ts d) (pOut ts' d n e) :=
 gP_ok hX hp (by kernel_rfl) (show (fn fPRanged).body=some (code fPRanged) by kernel_rfl) (by kernel_rfl) h
attribute [local irreducible] runF in
set_option maxRecDepth 100000 in
theorem rangedOk1 {X:WX}(hX:X.Sound)(hp:X.px=X0){os:Orc}{ts ts':List AV}{d:Int}{n e:AV}(h:gP1 X fPRanged os ts ts' d n e):FOk Tryz.prog gl0 fPRanged [pArg] (pHeap ts d) (pOut ts' d n e) :=
 gP_ok hX hp (by kernel_rfl) (show (fn fPRanged).body=some (code fPRanged) by kernel_rfl) (by kernel_rfl) h
attribute [local irreducible] runF in
set_option maxRecDepth 100000 in
theorem partOk {X:WX}(hX:X.Sound)(hp:X.px=X0){os:Orc}{ts ts':List AV}{d:Int}{n e:AV}(h:gP X fPPart os ts ts' d n e):FOk Tryz.prog gl0 fPPart [pArg] (pHeap ts d) (pOut ts' d n e) :=
 gP_ok hX hp (by kernel_rfl) (show (fn fPPart).body=some (code fPPart) by kernel_rfl) (by kernel_rfl) h
attribute [local irreducible] runF in
set_option maxRecDepth 100000 in
theorem exprOk {X:WX}(hX:X.Sound)(hp:X.px=X0){os:Orc}{ts ts':List AV}{d:Int}{n e:AV}(h:gP X fPExpr os ts ts' d n e):FOk Tryz.prog gl0 fPExpr [pArg] (pHeap ts d) (pOut ts' d n e) :=
 gP_ok hX hp (by kernel_rfl) (show (fn fPExpr).body=some (code fPExpr) by kernel_rfl) (by kernel_rfl) h
attribute [local irreducible] runF in
set_option maxRecDepth 100000 in
theorem termOk {X:WX}(hX:X.Sound)(hp:X.px=X0){os:Orc}{ts ts':List AV}{d:Int}{n e:AV}(h:gP X fPTerm os ts ts' d n e):FOk Tryz.prog gl0 fPTerm [pArg] (pHeap ts d) (pOut ts' d n e) :=
 gP_ok hX hp (by kernel_rfl) (show (fn fPTerm).body=some (code fPTerm) by kernel_rfl) (by kernel_rfl) h
theorem XE_ok {ts ts':List AV}{d:Int}{n e:AV}(h:FOk Tryz.prog gl0 fPExpr [pArg] (pHeap ts d) (pOut ts' d n e)):(XE ts ts' d n e).Sound:=XB_ok.add (conOk (s:=spP ts ts' d n e) fun _ _=>h)
theorem XA_ok {ts ts':List AV}{d:Int}{n e:AV}(h:FOk Tryz.prog gl0 fPAtom [pArg] (pHeap ts d) (pOut ts' d n e)):(XA ts ts' d n e).Sound:=XB_ok.add (conOk (s:=spP ts ts' d n e) fun _ _=>h)
theorem XAA_ok {ts ts' us us':List AV}{d d2:Int}{n e n2 e2:AV}(h:FOk Tryz.prog gl0 fPAtom [pArg] (pHeap ts d) (pOut ts' d n e))(h2:FOk Tryz.prog gl0 fPAtom [pArg] (pHeap us d2) (pOut us' d2 n2 e2)):(XAA ts ts' d n e us us' d2 n2 e2).Sound :=
 XB_ok.add (Sp.ok (P:=Tryz.prog) (gl:=gl0) (f:=fPAtom) fun s hs _ _=>by
  rcases List.mem_cons.1 hs with rfl | hs
  · exact h
  · rcases List.mem_cons.1 hs with rfl | hs
    · exact h2
    · cases hs)
theorem XF_ok {x:ByteArray}{ts ts':List AV}{d:Int}{n e:AV}(h:FOk Tryz.prog gl0 fPExpr [pArg] (pHeap ts d) (pOut ts' d n e)){v:Int}(hv:formS x=v):(XF x v ts ts' d n e).Sound:=(XE_ok h).add (conOk (s:=spForm x v) fun _ _=>hv ▸ form_ok x)
theorem XFN_ok {x:ByteArray}{ts ts':List AV}{d:Int}{n e t:AV}{m:Int}{b:Bool}(h:FOk Tryz.prog gl0 fPExpr [pArg] (pHeap ts d) (pOut ts' d n e))(hv:formS x=3)(ht:F fNumber [t] (.tup [i0 m,b0 b])):(XFN x ts ts' d n e t m b).Sound :=
 (XF_ok h hv).add (conOk (s:=spNum t m b) fun _ _=>ht)
theorem XForm_ok {x:ByteArray}{v:Int}(hv:formS x=v):(XB.add fForm (Sp.con [spForm x v])).Sound:=XB_ok.add (conOk (s:=spForm x v) fun _ _=>hv ▸ form_ok x)
theorem XPre_ok {x:ByteArray}{b:Bool}(hx:x.size≤600)(hv:isPrefixS x=b):(XB.add fIsPrefix (Sp.con [spPre x b])).Sound:=XB_ok.add (conOk (s:=spPre x b) fun _ _=>hv ▸ isPrefix_ok x (by omega))
theorem formS_cases (x:ByteArray):formS x=0∨formS x=1∨formS x=2∨formS x=3:=by
 unfold formS; split
 · simp
 · split
   · simp
   · split <;> simp
theorem beqF {a b:Int}(h:a≠b):(a==b)=false:=beq_eq_false_iff_ne.2 h
theorem bneT {a b:Int}(h:a≠b):(a != b)=true:=bne_iff_ne.2 h
theorem num_kind {t:Tk}{k:Int}(h:numberS t=some k):t.kind=1:=by
 unfold numberS at h
 split at h
 · rename_i h1; exact h1.1
 · cases h
theorem expect_yes {k a:Int}{x:ByteArray}{r:List Tk}(h:k≠11):expectS k (⟨k,a,x⟩::r)=(none,r):=by
 show (if k=k then (none,takeT (⟨k,a,x⟩::r)) else _)=_
 rw [if_pos rfl,takeT_cons h]
theorem expect_no {k kc ac:Int}{xc:ByteArray}{r:List Tk}(h:kc≠k):expectS k (⟨kc,ac,xc⟩::r)=(some (15,ac),⟨kc,ac,xc⟩::r):=by
 show (if kc=k then _ else (wrongT (⟨kc,ac,xc⟩::r),⟨kc,ac,xc⟩::r))=_
 rw [if_neg h]; rfl
attribute [local irreducible] runF in
set_option maxRecDepth 100000 in
theorem atom_step {f:Nat}(ih:PFOk f){d:Int}{ts:List Tk}(h0:0≤d)(h1:d≤24)(hk:okT ts)(hf:5*ts.length+1≤f+1):PR fPAtom d ts (PF (f+1) .atom d ts):=by
 match ts,hk,hf with
 | [],hk,_=>exact hk.elim
 | ⟨k,a,x⟩::r,hk,hf =>
  rw [List.length_cons] at hf
  rw [PF_atom]
  by_cases h2:k=2
  · subst h2
    have hr:=okT_cons hk (show (2:Int)≠11 by decide)
    rw [if_pos rfl,takeT_cons (show (2:Int)≠11 by decide)]
    unfold withinS
    by_cases hd:d=24
    · subst hd; rw [if_pos rfl]
      exact atomOk XB_ok rfl (aDeep_ok a x (r.map encT))
    · rw [if_neg hd]
      dsimp only
      have hq:=ih .expr (d+1) r (by omega) (by omega) hr (by show 5*r.length+5≤f; omega)
      have hi:=PF_inv f .expr (d+1) r hr
      generalize PF f .expr (d+1) r=q at hq hi ⊢
      obtain ⟨n,e,us⟩:=q
      have hq:PR fPExpr (d+1) r ⟨n,e,us⟩:=hq
      cases e with
      | some e =>
        obtain ⟨ek,ea⟩:=e
        simp only [ne_eq,reduceCtorEq,not_false_eq_true,if_true]
        exact atomOk (XE_ok hq) rfl (aOpenE_ok a x _ d n ek ea _ (beqF hd) h0 h1)
      | none =>
        simp only [ne_eq,not_true_eq_false,if_false]
        match us,hi.1,hq with
        | ⟨kc,ac,xc⟩::r',hc,hq =>
          by_cases h3:kc=3
          · subst h3
            rw [expect_yes (show (3:Int)≠11 by decide)]
            exact atomOk (XE_ok hq) rfl (aOpen_ok a x _ d n ac xc _ (beqF hd) h0 h1)
          · rw [expect_no h3]
            exact atomOk (XE_ok hq) rfl (aOpenX_ok a x _ d n kc ac xc _ (beqF hd) (bneT h3) h0 h1)
  · rw [if_neg h2]
    by_cases h3:k=1
    · subst h3
      have hr:=okT_cons hk (show (1:Int)≠11 by decide)
      have hx:=okT_size hk
      have hx:x.size≤600:=hx
      rw [if_pos rfl,takeT_cons (show (1:Int)≠11 by decide)]
      match r,hr,hf with
      | ⟨k',a',x'⟩::r,hr,hf =>
        rw [List.length_cons] at hf
        by_cases h4:k'=2
        · subst h4
          have hr2:=okT_cons hr (show (2:Int)≠11 by decide)
          rw [if_pos (c:=(headT (⟨2,a',x'⟩::r)).kind=2) rfl,callS_eq]
          by_cases hv0:formS x=0
          · rw [if_pos hv0]
            exact atomOk (XForm_ok hv0) rfl (aCall0_ok a x a' x' _ d h0 h1)
          rw [if_neg hv0,takeT_cons (show (2:Int)≠11 by decide)]
          unfold withinS
          by_cases hd:d=24
          · subst hd; rw [if_pos rfl]
            exact atomOk (XForm_ok rfl) rfl (aCallD_ok a x (formS x) a' x' _ (beqF hv0))
          rw [if_neg hd]
          dsimp only
          by_cases hv1:formS x=1
          · rw [if_pos hv1]
            match r,hr2 with
            | ⟨kc,ac,xc⟩::r',hc =>
              by_cases h5:kc=3
              · subst h5
                rw [expect_yes (show (3:Int)≠11 by decide)]
                exact atomOk (XForm_ok hv1) rfl (aCall1_ok a x a' x' ac xc _ d (beqF hd) h0 h1)
              · rw [expect_no h5]
                exact atomOk (XForm_ok hv1) rfl (aCall1X_ok a x a' x' kc ac xc _ d (beqF hd) (bneT h5) h0 h1)
          rw [if_neg hv1]
          have hq:=ih .expr (d+1) r (by omega) (by omega) hr2 (by show 5*r.length+5≤f; omega)
          have hi:=PF_inv f .expr (d+1) r hr2
          generalize PF f .expr (d+1) r=q at hq hi ⊢
          obtain ⟨n,e,us⟩:=q
          have hq:PR fPExpr (d+1) r ⟨n,e,us⟩:=hq
          cases e with
          | some e =>
            obtain ⟨ek,ea⟩:=e
            simp only [ne_eq,reduceCtorEq,not_false_eq_true,if_true]
            unfold PR
            rw [node1]
            exact atomOk (XF_ok hq rfl) rfl (aCallE_ok a x (formS x) a' x' _ d n ek ea _ (beqF hv0) (beqF hd) (beqF hv1) h0 h1)
          | none =>
            simp only [ne_eq,not_true_eq_false,if_false]
            match us,hi.1,hq with
            | ⟨kc,ac,xc⟩::r',hc,hq =>
              by_cases hv2:formS x=2
              · rw [if_pos hv2]
                by_cases h5:kc=3
                · subst h5
                  rw [expect_yes (show (3:Int)≠11 by decide)]
                  unfold PR
                  rw [node1]
                  exact atomOk (XF_ok hq hv2) rfl (aCall2_ok a x a' x' _ d n ac xc _ (beqF hd) h0 h1)
                · rw [expect_no h5]
                  unfold PR
                  rw [node1]
                  exact atomOk (XF_ok hq hv2) rfl (aCall2X_ok a x a' x' _ d n kc ac xc _ (beqF hd) (bneT h5) h0 h1)
              rw [if_neg hv2]
              have hv3:formS x=3:=by rcases formS_cases x with h | h | h | h <;> first | exact absurd h hv0 | exact absurd h hv1 | exact absurd h hv2 | exact h
              by_cases h5:kc=4
              · subst h5
                have hr3:=okT_cons hc (show (4:Int)≠11 by decide)
                have ex:expectS 4 (⟨4,ac,xc⟩::r')=(none,r'):=expect_yes (by decide)
                rw [ex]
                simp only [ne_eq,not_true_eq_false,if_false]
                match r',hr3 with
                | t::r'',hn =>
                  cases hm:numberS t with
                  | none =>
                    rw [show numberS (headT (t::r''))=none from hm]
                    dsimp only
                    obtain ⟨m,hm⟩:=number_none t (Nat.le_trans (okT_size hn) (by omega)) hm
                    obtain ⟨kn,an,xn⟩:=t
                    unfold PR
                    rw [node1]
                    exact atomOk (XFN_ok hq hv3 hm) rfl (aCall3N_ok a x a' x' _ d n ac xc kn an xn m _ (beqF hd) h0 h1)
                  | some m =>
                    rw [show numberS (headT (t::r''))=some m from hm]
                    dsimp only
                    have hk1:=num_kind hm
                    have hm:=number_some t m hm
                    obtain ⟨kn,an,xn⟩:=t
                    have hk1:kn=1:=hk1
                    subst hk1
                    have hr4:=okT_cons hn (show (1:Int)≠11 by decide)
                    rw [takeT_cons (show (1:Int)≠11 by decide)]
                    match r'',hr4 with
                    | ⟨kz,az,xz⟩::r5,_ =>
                      by_cases h6:kz=3
                      · subst h6
                        rw [expect_yes (show (3:Int)≠11 by decide)]
                        unfold PR
                        rw [node1]
                        exact atomOk (XFN_ok hq hv3 hm) rfl (aCall3_ok a x a' x' _ d n ac xc an xn m az xz _ (beqF hd) h0 h1)
                      · rw [expect_no h6]
                        unfold PR
                        rw [node1]
                        exact atomOk (XFN_ok hq hv3 hm) rfl (aCall3X_ok a x a' x' _ d n ac xc an xn m kz az xz _ (beqF hd) (bneT h6) h0 h1)
              · have ex:expectS 4 (⟨kc,ac,xc⟩::r')=(some (15,ac),⟨kc,ac,xc⟩::r'):=expect_no h5
                rw [ex]
                simp only [ne_eq,reduceCtorEq,not_false_eq_true,if_true]
                unfold PR
                rw [node1]
                exact atomOk (XF_ok hq hv3) rfl (aCall3C_ok a x a' x' _ d n kc ac xc _ (beqF hd) (bneT h5) h0 h1)
        · rw [if_neg (c:=(headT (⟨k',a',x'⟩::r)).kind=2) h4]
          by_cases hp:isPrefixS x=true
          · rw [if_pos hp]
            exact atomOk (XPre_ok hx hp) rfl (aName_ok a x k' a' x' _ d (beqF h4) h0 h1)
          · rw [if_neg hp]
            exact atomOk (XPre_ok hx (by simpa using hp)) rfl (aNameX_ok a x k' a' x' _ d (beqF h4) h0 h1)
    · rw [if_neg h3]
      exact atomOk XB_ok rfl (aBad_ok k a x _ d (beqF h2) (beqF h3) h0 h1)
end
end Go.Proofs.YtpofhijgccocpaaGreatDoor
end
section
namespace Go.Proofs.YtpofhijgccocpaaGreatDoor
open Go.AS Go.TP
noncomputable section
attribute [local irreducible] runF in
set_option maxRecDepth 100000 in
theorem upOk {X:WX}(hX:X.Sound)(hp:X.px=X0){os:Orc}{a:Int}{x:ByteArray}{ts ts':List AV}{d:Int}{n e:AV}(h:gUp X os a x ts ts' d n e):FOk Tryz.prog gl0 fPUp [pArg,tokV 5 a x] (pHeap ts d) (pOut ts' d n e) :=
 gP_ok hX hp (by kernel_rfl) (show (fn fPUp).body=some (code fPUp) by kernel_rfl) (by kernel_rfl) h
attribute [local irreducible] runF in
set_option maxRecDepth 100000 in
theorem takeOk (a:Int)(x:ByteArray)(r:List AV)(d:Int)(h0:0≤d)(h1:d≤24):FOk Tryz.prog gl0 fPTake [pArg] (pHeap (tokV 5 a x::r) d) ⟨tokV 5 a x,pHeap r d,[1048577]⟩ :=
 gP_ok XB_ok rfl (by kernel_rfl) (show (fn fPTake).body=some (code fPTake) by kernel_rfl) (by kernel_rfl) (kTake_ok a x r d h0 h1)
theorem XU_ok {a:Int}{x:ByteArray}{r ts':List AV}{d:Int}{n e:AV}(h0:0≤d)(h1:d≤24)(h:FOk Tryz.prog gl0 fPUp [pArg,tokV 5 a x] (pHeap r d) (pOut ts' d n e)):(XU a x r ts' d n e).Sound :=
 (XB_ok.add (conOk (s:=spTake a x r d) fun _ _=>takeOk a x r d h0 h1)).add (conOk (s:=spUp a x r ts' d n e) fun _ _=>h)
attribute [local irreducible] runF in
set_option maxRecDepth 100000 in
theorem ranged_step {f:Nat}(ih:PFOk f){d:Int}{ts:List Tk}(h0:0≤d)(h1:d≤24)(hk:okT ts)(hf:5*ts.length+2≤f+1):PR fPRanged d ts (PF (f+1) .ranged d ts):=by
 match ts,hk,hf with
 | [],hk,_=>exact hk.elim
 | ⟨k,a,x⟩::r,hk,hf =>
  rw [PF_ranged]
  by_cases h2:k=5
  · subst h2
    have hr:=okT_cons hk (show (5:Int)≠11 by decide)
    rw [List.length_cons] at hf
    rw [if_pos rfl,takeT_cons (show (5:Int)≠11 by decide)]
    unfold withinS
    by_cases hd:d=24
    · subst hd; rw [if_pos rfl]
      exact rangedOk (XU_ok h0 h1 (upOk XB_ok rfl (uD_ok a x (r.map encT)))) rfl (rUpE_ok a x (r.map encT) 24 (.mk 6 a 0 ByteArray.empty []) 16 a (r.map encT) h0 h1)
    · rw [if_neg hd]
      dsimp only
      have hq:=ih .atom (d+1) r (by omega) (by omega) hr (by show 5*r.length+1≤f; omega)
      generalize PF f .atom (d+1) r=q at hq ⊢
      obtain ⟨n,e,us⟩:=q
      have hq:PR fPAtom (d+1) r ⟨n,e,us⟩:=hq
      cases e with
      | some e =>
        obtain ⟨ek,ea⟩:=e
        have hu:=upOk (XA_ok hq) rfl (uE_ok a x _ d n ek ea _ (beqF hd) h0 h1)
        rw [←node1] at hu
        exact rangedOk (XU_ok h0 h1 hu) rfl (rUpE_ok a x _ d _ ek ea _ h0 h1)
      | none =>
        have hu:=upOk (XA_ok hq) rfl (uN_ok a x _ d n _ (beqF hd) h0 h1)
        rw [←node1] at hu
        exact rangedOk (XU_ok h0 h1 hu) rfl (rUpN_ok a x _ d _ _ h0 h1)
  · rw [if_neg h2]
    dsimp only
    have hq:=ih .atom d (⟨k,a,x⟩::r) h0 h1 hk (by show 5*(List.length _)+1≤f; omega)
    have hi:=PF_inv f .atom d (⟨k,a,x⟩::r) hk
    generalize PF f .atom d (⟨k,a,x⟩::r)=q at hq hi ⊢
    obtain ⟨n,e,us⟩:=q
    have hq:PR fPAtom d (⟨k,a,x⟩::r) ⟨n,e,us⟩:=hq
    cases e with
    | some e =>
      obtain ⟨ek,ea⟩:=e
      simp only [ne_eq,reduceCtorEq,not_false_eq_true,if_true]
      exact rangedOk (XA_ok hq) rfl (rAtE_ok k a x _ d n ek ea _ (beqF h2) h0 h1)
    | none =>
      simp only [ne_eq,not_true_eq_false,if_false]
      obtain ⟨hi1,hi2⟩:=hi
      match us,hi1,hi2,hq with
      | ⟨ku,au,xu⟩::r',hc,hl,hq =>
        have hl:r'.length+1≤(⟨k,a,x⟩::r:List Tk).length:=hl
        by_cases h5:ku=5
        · subst h5
          have hr:=okT_cons hc (show (5:Int)≠11 by decide)
          rw [if_pos (c:=(headT (⟨5,au,xu⟩::r')).kind=5) rfl,takeT_cons (show (5:Int)≠11 by decide)]
          unfold withinS
          by_cases hd:d=24
          · subst hd; rw [if_pos rfl]
            unfold PR
            rw [node1]
            exact rangedOk (XA_ok hq) rfl (rBetD_ok k a x _ n au xu _ (beqF h2))
          · rw [if_neg hd]
            dsimp only
            match r',hr,hl with
            | ⟨k2,a2,x2⟩::r'',hr,hl =>
              unfold secondS
              by_cases h6:false=false∧(headT (⟨k2,a2,x2⟩::r'')).kind≠2∧(headT (⟨k2,a2,x2⟩::r'')).kind≠1
              · rw [if_pos h6]
                unfold PR
                rw [node1]
                exact rangedOk (XA_ok hq) rfl (rDown_ok k a x _ d n au xu k2 a2 x2 _ (beqF h2) (beqF hd) (beqF h6.2.1) (beqF h6.2.2) h0 h1)
              · rw [if_neg h6]
                have h7:k2=2∨k2=1:=by
                  by_cases e1:k2=2
                  · exact .inl e1
                  · by_cases e2:k2=1
                    · exact .inr e2
                    · exact absurd ⟨rfl,e1,e2⟩ h6
                dsimp only
                have hq2:=ih .atom (d+1) (⟨k2,a2,x2⟩::r'') (by omega) (by omega) hr (by show 5*(List.length _)+1≤f; omega)
                generalize PF f .atom (d+1) (⟨k2,a2,x2⟩::r'')=q2 at hq2 ⊢
                obtain ⟨n2,e2,us2⟩:=q2
                have hq2:PR fPAtom (d+1) (⟨k2,a2,x2⟩::r'') ⟨n2,e2,us2⟩:=hq2
                unfold PR
                rw [node2]
                cases e2 with
                | some e =>
                  obtain ⟨ek,ea⟩:=e
                  rcases h7 with rfl | rfl
                  · exact rangedOk1 (XAA_ok hq hq2) rfl (rBet2E_ok k a x _ d n au xu a2 x2 _ n2 ek ea _ (beqF h2) (beqF hd) h0 h1)
                  · exact rangedOk1 (XAA_ok hq hq2) rfl (rBet1E_ok k a x _ d n au xu a2 x2 _ n2 ek ea _ (beqF h2) (beqF hd) h0 h1)
                | none =>
                  rcases h7 with rfl | rfl
                  · exact rangedOk1 (XAA_ok hq hq2) rfl (rBet2N_ok k a x _ d n au xu a2 x2 _ n2 _ (beqF h2) (beqF hd) h0 h1)
                  · exact rangedOk1 (XAA_ok hq hq2) rfl (rBet1N_ok k a x _ d n au xu a2 x2 _ n2 _ (beqF h2) (beqF hd) h0 h1)
        rw [if_neg (c:=(headT (⟨ku,au,xu⟩::r')).kind=5) h5]
        by_cases h6:ku=6
        · subst h6
          have hr:=okT_cons hc (show (6:Int)≠11 by decide)
          rw [if_pos (c:=(headT (⟨6,au,xu⟩::r')).kind=6) rfl,takeT_cons (show (6:Int)≠11 by decide)]
          unfold secondS
          rw [if_neg (fun h:(true=false∧_)=>Bool.noConfusion h.1)]
          dsimp only
          have hq2:=ih .atom d r' h0 h1 hr (by show 5*r'.length+1≤f; omega)
          generalize PF f .atom d r'=q2 at hq2 ⊢
          obtain ⟨n2,e2,us2⟩:=q2
          have hq2:PR fPAtom d r' ⟨n2,e2,us2⟩:=hq2
          unfold PR
          rw [node2]
          cases e2 with
          | some e =>
            obtain ⟨ek,ea⟩:=e
            exact rangedOk1 (XAA_ok hq hq2) rfl (rOnlyE_ok k a x _ d n au xu _ n2 ek ea _ (beqF h2) h0 h1)
          | none=>exact rangedOk1 (XAA_ok hq hq2) rfl (rOnlyN_ok k a x _ d n au xu _ n2 _ (beqF h2) h0 h1)
        · rw [if_neg (c:=(headT (⟨ku,au,xu⟩::r')).kind=6) h6]
          exact rangedOk (XA_ok hq) rfl (rAt0_ok k a x _ d n ku au xu _ (beqF h2) (beqF h5) (beqF h6) h0 h1)
attribute [local irreducible] runF in
set_option maxRecDepth 100000 in
theorem part_step {f:Nat}(ih:PFOk f){d:Int}{ts:List Tk}(h0:0≤d)(h1:d≤24)(hk:okT ts)(hf:5*ts.length+3≤f+1):PR fPPart d ts (PF (f+1) .part d ts):=by
 match ts,hk,hf with
 | [],hk,_=>exact hk.elim
 | ⟨k,a,x⟩::r,hk,hf =>
  rw [PF_part]
  by_cases h2:k=10
  · subst h2
    have hr:=okT_cons hk (show (10:Int)≠11 by decide)
    rw [List.length_cons] at hf
    rw [if_neg (fun h=>h rfl),takeT_cons (show (10:Int)≠11 by decide)]
    unfold withinS
    by_cases hd:d=24
    · subst hd; rw [if_pos rfl]
      exact partOk XB_ok rfl (tNotD_ok a x (r.map encT))
    · rw [if_neg hd]
      dsimp only
      have hq:=ih .part (d+1) r (by omega) (by omega) hr (by show 5*r.length+3≤f; omega)
      generalize PF f .part (d+1) r=q at hq ⊢
      obtain ⟨n,e,us⟩:=q
      have hq:FOk Tryz.prog gl0 fPPart [pArg] (pHeap (r.map encT) (d+1)) (pOut (us.map encT) (d+1) (encP n) (encE e)):=hq
      unfold PR
      rw [node1]
      cases e with
      | some e =>
        obtain ⟨ek,ea⟩:=e
        exact partOk (XB_ok.add (conOk (s:=spP _ _ _ _ _) fun _ _=>hq)) rfl (tNotE_ok a x _ d n ek ea _ (beqF hd) h0 h1)
      | none=>exact partOk (XB_ok.add (conOk (s:=spP _ _ _ _ _) fun _ _=>hq)) rfl (tNotN_ok a x _ d n _ (beqF hd) h0 h1)
  · rw [if_pos h2]
    have hq:=ih .ranged d (⟨k,a,x⟩::r) h0 h1 hk (by show 5*(List.length _)+2≤f; omega)
    generalize PF f .ranged d (⟨k,a,x⟩::r)=q at hq ⊢
    obtain ⟨n,e,us⟩:=q
    have hq:FOk Tryz.prog gl0 fPRanged [pArg] (pHeap (List.map encT (⟨k,a,x⟩::r)) d) (pOut (us.map encT) d (encP n) (encE e)):=hq
    cases e with
    | some e =>
      obtain ⟨ek,ea⟩:=e
      exact partOk (XB_ok.add (conOk (s:=spP _ _ _ _ _) fun _ _=>hq)) rfl (tRanE_ok k a x _ d n ek ea _ (bneT h2) h0 h1)
    | none=>exact partOk (XB_ok.add (conOk (s:=spP _ _ _ _ _) fun _ _=>hq)) rfl (tRanN_ok k a x _ d n _ (bneT h2) h0 h1)
end
end Go.Proofs.YtpofhijgccocpaaGreatDoor
end
section
namespace Go.Proofs.YtpofhijgccocpaaGreatDoor
open Go.AS Go.TP
noncomputable section
abbrev BCh (xs:List AV)(σ:Hp)(r:Ex × Back):Prop:=BlkOk Tryz.prog gl0 (fn fPChain).ntmps (loopAt (code fPChain) 0) [0,1,2,6,8,9] (fun _=>[6,8,9]) xs σ fun _ q=>q=r
attribute [local irreducible] runL in
set_option maxRecDepth 100000 in
theorem chRound {X:WX}(hX:X.Sound)(hp:X.px=X0){os:Orc}{c:Ch}{P:Prop}{ts us:List AV}{d:Int}{n e n' e':AV}{r' r:Ex × Back}(ih:P→BCh (cArgs c e') (cHeap c us d n') r')(h:rCh X os c P ts d n e us n' e' r' r):BCh (cArgs c e) (cHeap c ts d n) r:=by
 have hP:X.px.P=Tryz.prog:=by rw [hp]; rfl
 have hg:X.px.gl=gl0:=by rw [hp]; rfl
 have:=lp_round1W (X:=X.ask (fPChain::askP)) (hX.ask _) (f:=fPChain) (fn:=fn fPChain) (code:=code fPChain) (by show X.px.P.funcs[fPChain]?=_; rw [hP]; exact fnOk fPChain (by kernel_rfl)) (show (fn fPChain).body=some (code fPChain) by kernel_rfl)
  (i:=0) (ins:=[0,1,2,6,8,9]) (gh:=[]) (outs:=fun _=>[6,8,9]) (show ([0,1,2,6,8,9]:List Nat).Nodup by decide) (P:=P) (xs':=cArgs c e') (σ':=cHeap c us d n') (r':=r') (by
   show P→BlkOk X.px.P X.px.gl _ _ _ _ _ _ _
   rw [hP,hg]; exact ih) h
 show BlkOk Tryz.prog gl0 _ _ _ _ _ _ _
 rw [←hP,←hg]; exact this
theorem XC_ok {c:Ch}{ts ts':List AV}{d:Int}{n e:AV}(h:FOk Tryz.prog gl0 c.f [pArg] (pHeap ts d) (pOut ts' d n e)):(XC c ts ts' d n e).Sound:=XB_ok.add (conOk (s:=spP ts ts' d n e) fun _ _=>h)
theorem chainS_err {part:List Tk→R}{km:Int→Int}{m:Nat}{r:R}(h:r.e≠none):chainS part km m r=r:=by
 cases m with
 | zero=>rw [chainS]
 | succ m=>rw [chainS,if_neg (fun q=>h q.1)]
theorem chainS_stop {part:List Tk→R}{km:Int→Int}{m:Nat}{r:R}(h:km (headT r.ts).kind=0):chainS part km m r=r:=by
 cases m with
 | zero=>rw [chainS]
 | succ m=>rw [chainS,if_neg (fun q=>q.2 h)]
theorem lookE (k:Int):lookI k [Value.int IntKind.i64 (7:Int),Value.int IntKind.i64 (8:Int)] [AV.lit (Value.int IntKind.i64 (2:Int)),AV.lit (Value.int IntKind.i64 (3:Int))]=kmE k:=by
 unfold kmE
 simp only [lookI,numA]
theorem lookT (k:Int):lookI k [Value.int IntKind.i64 (9:Int)] [AV.lit (Value.int IntKind.i64 (4:Int))]=kmT k:=by
 unfold kmT
 simp only [lookI,numA]
theorem kmE_ne {k:Int}(h:kmE k≠0):k=7∨k=8:=by
 unfold kmE at h
 split at h
 · exact .inl (by assumption)
 · split at h
   · exact .inr (by assumption)
   · exact absurd rfl h
theorem kmT_ne {k:Int}(h:kmT k≠0):k=9:=by
 unfold kmT at h
 split at h
 · assumption
 · exact absurd rfl h
attribute [local irreducible] runL runF in
set_option maxRecDepth 100000 in
theorem chainE {f:Nat}(ih:PFOk f){d:Int}(h0:0≤d)(h1:d≤24):∀ (m:Nat)(r:R),okT r.ts→r.ts.length≤m→5*r.ts.length≤f →
  BCh (cArgs chE (encE r.e)) (cHeap chE (r.ts.map encT) d (encP r.n)) (cOut chE ((chainS (PF f .term d) kmE m r).ts.map encT) d (encP (chainS (PF f .term d) kmE m r).n) (encE (chainS (PF f .term d) kmE m r).e)):=by
 intro m
 induction m with
 | zero =>
  intro r hk hl _
  exact absurd (List.eq_nil_of_length_eq_zero (by omega)) (okT_ne hk)
 | succ m ihm =>
  intro r hk hl hf
  obtain ⟨n,e,us⟩:=r
  cases e with
  | some e =>
   obtain ⟨ek,ea⟩:=e
   rw [chainS_err (fun h=>by cases h)]
   exact chRound (P:=False) XB_ok rfl (fun h=>h.elim) (cEe_ok (us.map encT) d n ek ea h0 h1)
  | none =>
   match us,hk,hl,hf with
   | ⟨k,a,x⟩::r',hk,hl,hf =>
    have hl:r'.length+1≤m+1:=hl
    have hf:5*(r'.length+1)≤f:=hf
    by_cases hkm:kmE k=0
    · rw [chainS_stop (r:=⟨n,none,⟨k,a,x⟩::r'⟩) hkm]
      exact chRound (P:=False) XB_ok rfl (fun h=>h.elim) (cXe_ok k a x (r'.map encT) d n (by rw [lookE,hkm]; rfl) h0 h1)
    · have hk7:=kmE_ne hkm
      have hne:k≠11:=by rcases hk7 with rfl | rfl <;> decide
      have hr:=okT_cons hk hne
      have e1:chainS (PF f .term d) kmE (m+1) ⟨n,none,⟨k,a,x⟩::r'⟩=chainS (PF f .term d) kmE m ⟨.mk (kmE k) a 0 ByteArray.empty [n,(PF f .term d r').n],(PF f .term d r').e,(PF f .term d r').ts⟩:=by
        rw [chainS,if_pos ⟨rfl,hkm⟩]
        show chainS _ _ m ⟨.mk (kmE k) a 0 ByteArray.empty [n,(PF f .term d (takeT (⟨k,a,x⟩::r'))).n],(PF f .term d (takeT (⟨k,a,x⟩::r'))).e,(PF f .term d (takeT (⟨k,a,x⟩::r'))).ts⟩=_
        rw [takeT_cons hne]
      rw [e1]
      have hq:=ih .term d r' h0 h1 hr (by show 5*r'.length+4≤f; omega)
      have hi:=PF_inv f .term d r' hr
      generalize PF f .term d r'=q at hq hi ⊢
      obtain ⟨qn,qe,qs⟩:=q
      have hq:FOk Tryz.prog gl0 (chE).f [pArg] (pHeap (r'.map encT) d) (pOut (qs.map encT) d (encP qn) (encE qe)):=hq
      have hi2:qs.length≤r'.length:=hi.2
      have hB:=ihm ⟨.mk (kmE k) a 0 ByteArray.empty [n,qn],qe,qs⟩ hi.1 (show qs.length≤m by omega) (show 5*qs.length≤f by omega)
      dsimp only at hB ⊢
      rw [node2] at hB
      have herr:qe≠none→(chainS (PF f .term d) kmE m ⟨.mk (kmE k) a 0 ByteArray.empty [n,qn],qe,qs⟩).e=qe:=fun h=>by rw [chainS_err h]
      generalize chainS (PF f .term d) kmE m ⟨.mk (kmE k) a 0 ByteArray.empty [n,qn],qe,qs⟩=z at hB herr ⊢
      obtain ⟨zn,ze,zs⟩:=z
      have herr:qe≠none→ze=qe:=herr
      have hB:BCh (cArgs chE (encE qe)) (cHeap chE (qs.map encT) d (nodeV (kmE k) a 0 ByteArray.empty [encP n,encP qn])) (cOut chE (zs.map encT) d (encP zn) (encE ze)):=hB
      rcases hk7 with rfl | rfl
      · cases qe with
        | some e =>
          obtain ⟨ek,ea⟩:=e
          obtain rfl:=herr (fun h=>by cases h)
          exact chRound (P:=True) (XC_ok hq) rfl (fun _=>hB) (cR7E_ok a x (r'.map encT) d n qn (qs.map encT) (zs.map encT) zn ek ea ek ea h0 h1)
        | none =>
          cases ze with
          | some e =>
            obtain ⟨ek,ea⟩:=e
            exact chRound (P:=True) (XC_ok hq) rfl (fun _=>hB) (cR7F_ok a x (r'.map encT) d n qn (qs.map encT) (zs.map encT) zn ek ea h0 h1)
          | none=>exact chRound (P:=True) (XC_ok hq) rfl (fun _=>hB) (cR7N_ok a x (r'.map encT) d n qn (qs.map encT) (zs.map encT) zn h0 h1)
      · cases qe with
        | some e =>
          obtain ⟨ek,ea⟩:=e
          obtain rfl:=herr (fun h=>by cases h)
          exact chRound (P:=True) (XC_ok hq) rfl (fun _=>hB) (cR8E_ok a x (r'.map encT) d n qn (qs.map encT) (zs.map encT) zn ek ea ek ea h0 h1)
        | none =>
          cases ze with
          | some e =>
            obtain ⟨ek,ea⟩:=e
            exact chRound (P:=True) (XC_ok hq) rfl (fun _=>hB) (cR8F_ok a x (r'.map encT) d n qn (qs.map encT) (zs.map encT) zn ek ea h0 h1)
          | none=>exact chRound (P:=True) (XC_ok hq) rfl (fun _=>hB) (cR8N_ok a x (r'.map encT) d n qn (qs.map encT) (zs.map encT) zn h0 h1)
attribute [local irreducible] runL runF in
set_option maxRecDepth 100000 in
theorem chainT {f:Nat}(ih:PFOk f){d:Int}(h0:0≤d)(h1:d≤24):∀ (m:Nat)(r:R),okT r.ts→r.ts.length≤m→5*r.ts.length≤f →
  BCh (cArgs chT (encE r.e)) (cHeap chT (r.ts.map encT) d (encP r.n)) (cOut chT ((chainS (PF f .part d) kmT m r).ts.map encT) d (encP (chainS (PF f .part d) kmT m r).n) (encE (chainS (PF f .part d) kmT m r).e)):=by
 intro m
 induction m with
 | zero =>
  intro r hk hl _
  exact absurd (List.eq_nil_of_length_eq_zero (by omega)) (okT_ne hk)
 | succ m ihm =>
  intro r hk hl hf
  obtain ⟨n,e,us⟩:=r
  cases e with
  | some e =>
   obtain ⟨ek,ea⟩:=e
   rw [chainS_err (fun h=>by cases h)]
   exact chRound (P:=False) XB_ok rfl (fun h=>h.elim) (cEt_ok (us.map encT) d n ek ea h0 h1)
  | none =>
   match us,hk,hl,hf with
   | ⟨k,a,x⟩::r',hk,hl,hf =>
    have hl:r'.length+1≤m+1:=hl
    have hf:5*(r'.length+1)≤f:=hf
    by_cases hkm:kmT k=0
    · rw [chainS_stop (r:=⟨n,none,⟨k,a,x⟩::r'⟩) hkm]
      exact chRound (P:=False) XB_ok rfl (fun h=>h.elim) (cXt_ok k a x (r'.map encT) d n (by rw [lookT,hkm]; rfl) h0 h1)
    · have hk7:=kmT_ne hkm
      have hne:k≠11:=by rw [hk7]; decide
      have hr:=okT_cons hk hne
      have e1:chainS (PF f .part d) kmT (m+1) ⟨n,none,⟨k,a,x⟩::r'⟩=chainS (PF f .part d) kmT m ⟨.mk (kmT k) a 0 ByteArray.empty [n,(PF f .part d r').n],(PF f .part d r').e,(PF f .part d r').ts⟩:=by
        rw [chainS,if_pos ⟨rfl,hkm⟩]
        show chainS _ _ m ⟨.mk (kmT k) a 0 ByteArray.empty [n,(PF f .part d (takeT (⟨k,a,x⟩::r'))).n],(PF f .part d (takeT (⟨k,a,x⟩::r'))).e,(PF f .part d (takeT (⟨k,a,x⟩::r'))).ts⟩=_
        rw [takeT_cons hne]
      rw [e1]
      have hq:=ih .part d r' h0 h1 hr (by show 5*r'.length+3≤f; omega)
      have hi:=PF_inv f .part d r' hr
      generalize PF f .part d r'=q at hq hi ⊢
      obtain ⟨qn,qe,qs⟩:=q
      have hq:FOk Tryz.prog gl0 (chT).f [pArg] (pHeap (r'.map encT) d) (pOut (qs.map encT) d (encP qn) (encE qe)):=hq
      have hi2:qs.length≤r'.length:=hi.2
      have hB:=ihm ⟨.mk (kmT k) a 0 ByteArray.empty [n,qn],qe,qs⟩ hi.1 (show qs.length≤m by omega) (show 5*qs.length≤f by omega)
      dsimp only at hB ⊢
      rw [node2] at hB
      have herr:qe≠none→(chainS (PF f .part d) kmT m ⟨.mk (kmT k) a 0 ByteArray.empty [n,qn],qe,qs⟩).e=qe:=fun h=>by rw [chainS_err h]
      generalize chainS (PF f .part d) kmT m ⟨.mk (kmT k) a 0 ByteArray.empty [n,qn],qe,qs⟩=z at hB herr ⊢
      obtain ⟨zn,ze,zs⟩:=z
      have herr:qe≠none→ze=qe:=herr
      have hB:BCh (cArgs chT (encE qe)) (cHeap chT (qs.map encT) d (nodeV (kmT k) a 0 ByteArray.empty [encP n,encP qn])) (cOut chT (zs.map encT) d (encP zn) (encE ze)):=hB
      subst hk7
      cases qe with
      | some e =>
        obtain ⟨ek,ea⟩:=e
        obtain rfl:=herr (fun h=>by cases h)
        exact chRound (P:=True) (XC_ok hq) rfl (fun _=>hB) (cR9E_ok a x (r'.map encT) d n qn (qs.map encT) (zs.map encT) zn ek ea ek ea h0 h1)
      | none =>
        cases ze with
        | some e =>
          obtain ⟨ek,ea⟩:=e
          exact chRound (P:=True) (XC_ok hq) rfl (fun _=>hB) (cR9F_ok a x (r'.map encT) d n qn (qs.map encT) (zs.map encT) zn ek ea h0 h1)
        | none=>exact chRound (P:=True) (XC_ok hq) rfl (fun _=>hB) (cR9N_ok a x (r'.map encT) d n qn (qs.map encT) (zs.map encT) zn h0 h1)
set_option maxRecDepth 100000 in
theorem addexpr {ts us:List AV}{d:Int}{n e:AV}{r:Ex × Back}(h:FOk Tryz.prog gl0 (chE).f [pArg] (pHeap ts d) (pOut us d n e))(hB:BCh (cArgs chE e) (cHeap chE us d n) r):((XC chE ts us d n e).addLp fPChain 0 (lpCh chE True us d n e r)).Sound :=
 (XC_ok h).addLp (fnOk fPChain (by kernel_rfl)) (show (fn fPChain).body=some (code fPChain) by kernel_rfl) (by kernel_rfl)
  (Spl.okW (L:=lpCh chE True us d n e r) (l:=[⟨Unit,fun _=>True,fun _=>cArgs chE e,fun _=>cHeap chE us d n,fun _=>r⟩]) rfl (show ([0,1,2,6,8,9]:List Nat).Nodup by decide) fun s hs i _=>by obtain rfl:=List.mem_singleton.1 hs; exact hB)
attribute [local irreducible] runL runF in
set_option maxRecDepth 100000 in
theorem expr_step {f:Nat}(ih:PFOk f){d:Int}{ts:List Tk}(h0:0≤d)(h1:d≤24)(hk:okT ts)(hf:5*ts.length+5≤f+1):PR fPExpr d ts (PF (f+1) .expr d ts):=by
 rw [PF]
 have hq:=ih .term d ts h0 h1 hk (by show 5*ts.length+4≤f; omega)
 have hi:=PF_inv f .term d ts hk
 generalize PF f .term d ts=q at hq hi ⊢
 obtain ⟨qn,qe,qs⟩:=q
 have hq:FOk Tryz.prog gl0 (chE).f [pArg] (pHeap (ts.map encT) d) (pOut (qs.map encT) d (encP qn) (encE qe)):=hq
 have hi2:qs.length≤ts.length:=hi.2
 have hB:=chainE ih h0 h1 f ⟨qn,qe,qs⟩ hi.1 (show qs.length≤f by omega) (show 5*qs.length≤f by omega)
 have herr:qe≠none→(chainS (PF f .term d) kmE f ⟨qn,qe,qs⟩).e=qe:=fun h=>by rw [chainS_err h]
 generalize chainS (PF f .term d) kmE f ⟨qn,qe,qs⟩=z at hB herr ⊢
 obtain ⟨zn,ze,zs⟩:=z
 have herr:qe≠none→ze=qe:=herr
 have hB:BCh (cArgs chE (encE qe)) (cHeap chE (qs.map encT) d (encP qn)) (cOut chE (zs.map encT) d (encP zn) (encE ze)):=hB
 cases qe with
 | some e =>
  obtain ⟨ek,ea⟩:=e
  obtain rfl:=herr (fun h=>by cases h)
  exact exprOk (addexpr hq hB) rfl (gExE_ok (ts.map encT) (qs.map encT) d qn (zs.map encT) zn ek ea ek ea h0 h1)
 | none =>
  cases ze with
  | some e =>
   obtain ⟨ek,ea⟩:=e
   exact exprOk (addexpr hq hB) rfl (gExF_ok (ts.map encT) (qs.map encT) d qn (zs.map encT) zn ek ea h0 h1)
  | none=>exact exprOk (addexpr hq hB) rfl (gExN_ok (ts.map encT) (qs.map encT) d qn (zs.map encT) zn h0 h1)
set_option maxRecDepth 100000 in
theorem addterm {ts us:List AV}{d:Int}{n e:AV}{r:Ex × Back}(h:FOk Tryz.prog gl0 (chT).f [pArg] (pHeap ts d) (pOut us d n e))(hB:BCh (cArgs chT e) (cHeap chT us d n) r):((XC chT ts us d n e).addLp fPChain 0 (lpCh chT True us d n e r)).Sound :=
 (XC_ok h).addLp (fnOk fPChain (by kernel_rfl)) (show (fn fPChain).body=some (code fPChain) by kernel_rfl) (by kernel_rfl)
  (Spl.okW (L:=lpCh chT True us d n e r) (l:=[⟨Unit,fun _=>True,fun _=>cArgs chT e,fun _=>cHeap chT us d n,fun _=>r⟩]) rfl (show ([0,1,2,6,8,9]:List Nat).Nodup by decide) fun s hs i _=>by obtain rfl:=List.mem_singleton.1 hs; exact hB)
attribute [local irreducible] runL runF in
set_option maxRecDepth 100000 in
theorem term_step {f:Nat}(ih:PFOk f){d:Int}{ts:List Tk}(h0:0≤d)(h1:d≤24)(hk:okT ts)(hf:5*ts.length+4≤f+1):PR fPTerm d ts (PF (f+1) .term d ts):=by
 rw [PF]
 have hq:=ih .part d ts h0 h1 hk (by show 5*ts.length+3≤f; omega)
 have hi:=PF_inv f .part d ts hk
 generalize PF f .part d ts=q at hq hi ⊢
 obtain ⟨qn,qe,qs⟩:=q
 have hq:FOk Tryz.prog gl0 (chT).f [pArg] (pHeap (ts.map encT) d) (pOut (qs.map encT) d (encP qn) (encE qe)):=hq
 have hi2:qs.length≤ts.length:=hi.2
 have hB:=chainT ih h0 h1 f ⟨qn,qe,qs⟩ hi.1 (show qs.length≤f by omega) (show 5*qs.length≤f by omega)
 have herr:qe≠none→(chainS (PF f .part d) kmT f ⟨qn,qe,qs⟩).e=qe:=fun h=>by rw [chainS_err h]
 generalize chainS (PF f .part d) kmT f ⟨qn,qe,qs⟩=z at hB herr ⊢
 obtain ⟨zn,ze,zs⟩:=z
 have herr:qe≠none→ze=qe:=herr
 have hB:BCh (cArgs chT (encE qe)) (cHeap chT (qs.map encT) d (encP qn)) (cOut chT (zs.map encT) d (encP zn) (encE ze)):=hB
 cases qe with
 | some e =>
  obtain ⟨ek,ea⟩:=e
  obtain rfl:=herr (fun h=>by cases h)
  exact termOk (addterm hq hB) rfl (gTeE_ok (ts.map encT) (qs.map encT) d qn (zs.map encT) zn ek ea ek ea h0 h1)
 | none =>
  cases ze with
  | some e =>
   obtain ⟨ek,ea⟩:=e
   exact termOk (addterm hq hB) rfl (gTeF_ok (ts.map encT) (qs.map encT) d qn (zs.map encT) zn ek ea h0 h1)
  | none=>exact termOk (addterm hq hB) rfl (gTeN_ok (ts.map encT) (qs.map encT) d qn (zs.map encT) zn h0 h1)
theorem PF_ok:∀ f,PFOk f
 | 0=>fun lv d ts _ _ hk hf=>by
  have:0<ts.length:=List.length_pos_iff.2 (okT_ne hk)
  omega
 | f+1=>fun lv d ts h0 h1 hk hf=>by
  have ih:=PF_ok f
  cases lv with
  | expr=>exact expr_step ih h0 h1 hk hf
  | term=>exact term_step ih h0 h1 hk hf
  | part=>exact part_step ih h0 h1 hk hf
  | ranged=>exact ranged_step ih h0 h1 hk hf
  | atom=>exact atom_step ih h0 h1 hk hf
end
end Go.Proofs.YtpofhijgccocpaaGreatDoor
end
section
namespace Go.Proofs.YtpofhijgccocpaaGreatDoor
open Go.AS Go.TP
noncomputable section
inductive ParR where
 | long
 | bad (k a:Int)
 | ok (n:Nd)
def parOf (r:R):ParR:=match r.e with
 | some (k,a) => .bad k a
 | none=>if (headT r.ts).kind=11 then .ok r.n else .bad 15 (headT r.ts).at_
def parL:LexR→ParR
 | .long => .long
 | .bad i => .bad 15 i
 | .ok ts=>parOf (PF (5*ts.length+5) .expr 0 ts)
def parseS (s:ByteArray):ParR:=parL (lexS s)
def encPar:ParR→AV
 | .long => .tup [encP Nd.zero, .iface tErrno (i0 5)]
 | .bad k a => .tup [encP Nd.zero,encErr k a]
 | .ok n => .tup [encP n,nilE]
def spLex (s:ByteArray)(x:AV):Sp := .pure Unit (fun _=>True) (fun _=>[s0 s]) (fun _=>x)
def gPar (X:WX)(os:Orc)(s:ByteArray)(x:AV):Prop:=runF (X.ask [fParse,fPExpect,fPNext,fPTake]) 12 fParse (fn fParse) (code fParse) os 0 [] [s0 s] .nil ⟨x, .nil,[]⟩
def XL (s:ByteArray)(x:AV):WX:=XT.add fLex (Sp.con [spLex s x])
def XLP (s:ByteArray)(ts ts':List AV)(n e:AV):WX:=(XL s (.tup [.lst false 3 ts, .lit .nilIface])).add fPExpr (Sp.con [spP ts ts' 0 n e])
def gParL (os:Orc)(s:ByteArray):Prop:=gPar (XL s (.tup [.lst false 3 [], .iface tErrno (i0 5)])) os s (.tup [encP Nd.zero, .iface tErrno (i0 5)])
def gParB (os:Orc)(s:ByteArray)(i:Int):Prop:=gPar (XL s (.tup [.lst false 3 [],encErr 15 i])) os s (.tup [encP Nd.zero,encErr 15 i])
def gParE (os:Orc)(s:ByteArray)(ts ts':List AV)(n:Nd)(k a:Int):Prop:=gPar (XLP s ts ts' (encP n) (encErr k a)) os s (.tup [encP Nd.zero,encErr k a])
def gParO (os:Orc)(s:ByteArray)(ts:List AV)(a:Int)(x:ByteArray)(r:List AV)(n:Nd):Prop:=gPar (XLP s ts (tokV 11 a x::r) (encP n) nilE) os s (.tup [encP n,nilE])
def gParX (os:Orc)(s:ByteArray)(ts:List AV)(k a:Int)(x:ByteArray)(r:List AV)(n:Nd):Prop:=gPar (XLP s ts (tokV k a x::r) (encP n) nilE) os s (.tup [encP Nd.zero,encErr 15 a])
end
end Go.Proofs.YtpofhijgccocpaaGreatDoor
end
section
namespace Go.Proofs.YtpofhijgccocpaaGreatDoor
open Go.AS Go.TP
noncomputable section
theorem FOk.drop {P:Program}{gl:Nat→Option AV}{f:FuncId}{xs:List AV}{x:AV}{σ:Hp}{ws:List Nat}(h:FOk P gl f xs .nil ⟨x,σ,ws⟩):FOk P gl f xs .nil ⟨x, .nil,[]⟩:=by
 intro E w vals hg hh hf hn hv
 refine (h E w vals hg hh hf hn hv).imp ?_
 rintro v w' ⟨os,q,E',rfl,k1,k2,k3,k4⟩
 have no:∀ {b:Nat}{F:Env},¬Own F .nil b:=fun ⟨k,e,L,hk,_⟩=>by rw [aget_nil] at hk; cases hk
 exact ⟨os,_,E',rfl,⟨fun _ _=>rfl,fun l e he=>⟨e,he⟩⟩,k2,⟨k3.imm,fun l e he=>(by rw [aget_nil] at he; cases he),fun b hb=>absurd hb no,fun l _ e _ _ _ _ he=>(by rw [aget_nil] at he; cases he)⟩,⟨k4.le,k4.os,k4.tape,k4.output,k4.size,k4.kept,fun b hb=>absurd hb no,k4.mNew⟩⟩
theorem FOk.glob {P:Program}{gl gl':Nat→Option AV}{f:FuncId}{xs:List AV}{σ:Hp}{r:Back}(hg:∀ g x,gl g=some x→gl' g=some x)(h:FOk P gl f xs σ r):FOk P gl' f xs σ r :=
 fun E w vals hG hh hf hn hv=>h E w vals (fun g x hx=>hG g x (hg g x hx)) hh hf hn hv
abbrev gErrT:Nat:=0
abbrev tRty:Nat:=167
abbrev tErrI:Nat:=47
def errT:AV := .ref (.lit (.iface tRty (.agg #[.pointer (some ⟨7,tErrI,none⟩)])))
def glE (g:Nat):Option AV:=bsel (Nat.beq g gErrT) (some errT) (gl0 g)
theorem glE_of (g:Nat)(x:AV)(h:gl0 g=some x):glE g=some x:=by
 unfold glE
 cases hb:Nat.beq g gErrT
 · exact h
 · obtain rfl:=Nat.eq_of_beq_eq_true hb
   have:gl0 gErrT=none:=by kernel_rfl
   rw [this] at h; cases h
def extE (f:FuncId):Option (Go.AS.Id→Nat→List AV→Hp→Option Res) :=
 (bsel (Nat.beq f 103) (some (valueOfX Tryz.prog))
 (bsel (Nat.beq f 104) (some (typeX Tryz.prog))
 (bsel (Nat.beq f 105) (some (isNilX Tryz.prog))
 (bsel (Nat.beq f 123) (some (typeOfX Tryz.prog))
 (bsel (Nat.beq f 124) (some (elemX Tryz.prog))
 (bsel (Nat.beq f 125) (some (setX Tryz.prog))
 (bsel (Nat.beq f 129) (some (pureX Tryz.prog (Extern.BytealgIndexByte.indexByte)))
 (bsel (Nat.beq f 195) (some (pureX Tryz.prog (Extern.ReflectliteType.abiMethod fun t=>do pure (.int .u8 (←Extern.Rtype.kind t)))))
 (bsel (Nat.beq f 205) (some (pureX Tryz.prog (Extern.ReflectliteType.relation "AssignableTo" Extern.ReflectliteType.assignableTo)))
 (bsel (Nat.beq f 206) (some (pureX Tryz.prog (Extern.ReflectliteType.method fun t=>do Extern.Rtype.noPackHeld "Comparable" t; pure (.bool (←typeInfo t).comparable))))
 (bsel (Nat.beq f 207) (some (pureX Tryz.prog (Extern.ReflectliteType.method Extern.ReflectliteType.elem)))
 (bsel (Nat.beq f 208) (some (pureX Tryz.prog (Extern.ReflectliteType.relation "Implements" Extern.ReflectliteType.implements_)))
 none))))))))))))
def XRE:PX:={ P:=Tryz.prog,gl:=glE,ext:=extE,own:=fun _ _=>true,m:=100000 }
theorem isEx0:IsExt Tryz.prog 103 (fn 103) (fun args=>Extern.ReflectliteValue.unpack (args.getD 0 (.tuple #[]))):=⟨fnOk _ (by kernel_rfl),by kernel_rfl,by kernel_rfl,by kernel_rfl,by kernel_rfl⟩
theorem isEx1:IsExt Tryz.prog 104 (fn 104) (Extern.ReflectliteValue.methodAny (Extern.ReflectliteValue.valueError "reflectlite.Value.Type" 0) fun t _ _ _=>Extern.ReflectliteType.toType t):=⟨fnOk _ (by kernel_rfl),by kernel_rfl,by kernel_rfl,by kernel_rfl,by kernel_rfl⟩
theorem isEx2:IsExt Tryz.prog 105 (fn 105) (Extern.ReflectliteValue.method (Extern.ReflectliteValue.valueError "reflectlite.Value.IsNil" 0) Extern.ReflectliteValue.isNil):=⟨fnOk _ (by kernel_rfl),by kernel_rfl,by kernel_rfl,by kernel_rfl,by kernel_rfl⟩
theorem isEx3:IsExt Tryz.prog 123 (fn 123) (Extern.ReflectliteType.typeOf):=⟨fnOk _ (by kernel_rfl),by kernel_rfl,by kernel_rfl,by kernel_rfl,by kernel_rfl⟩
theorem isEx4:IsExt Tryz.prog 124 (fn 124) (Extern.ReflectliteValue.method (Extern.ReflectliteValue.valueError "reflectlite.Value.Elem" 0) Extern.ReflectliteValue.elem):=⟨fnOk _ (by kernel_rfl),by kernel_rfl,by kernel_rfl,by kernel_rfl,by kernel_rfl⟩
theorem isEx5:IsExt Tryz.prog 125 (fn 125) (Extern.ReflectliteValue.set):=⟨fnOk _ (by kernel_rfl),by kernel_rfl,by kernel_rfl,by kernel_rfl,by kernel_rfl⟩
theorem isEx6:IsExt Tryz.prog 129 (fn 129) (Extern.BytealgIndexByte.indexByte):=⟨fnOk _ (by kernel_rfl),by kernel_rfl,by kernel_rfl,by kernel_rfl,by kernel_rfl⟩
theorem isEx7:IsExt Tryz.prog 195 (fn 195) (Extern.ReflectliteType.abiMethod fun t=>do pure (.int .u8 (←Extern.Rtype.kind t))):=⟨fnOk _ (by kernel_rfl),by kernel_rfl,by kernel_rfl,by kernel_rfl,by kernel_rfl⟩
theorem isEx8:IsExt Tryz.prog 205 (fn 205) (Extern.ReflectliteType.relation "AssignableTo" Extern.ReflectliteType.assignableTo):=⟨fnOk _ (by kernel_rfl),by kernel_rfl,by kernel_rfl,by kernel_rfl,by kernel_rfl⟩
theorem isEx9:IsExt Tryz.prog 206 (fn 206) (Extern.ReflectliteType.method fun t=>do Extern.Rtype.noPackHeld "Comparable" t; pure (.bool (←typeInfo t).comparable)):=⟨fnOk _ (by kernel_rfl),by kernel_rfl,by kernel_rfl,by kernel_rfl,by kernel_rfl⟩
theorem isEx10:IsExt Tryz.prog 207 (fn 207) (Extern.ReflectliteType.method Extern.ReflectliteType.elem):=⟨fnOk _ (by kernel_rfl),by kernel_rfl,by kernel_rfl,by kernel_rfl,by kernel_rfl⟩
theorem isEx11:IsExt Tryz.prog 208 (fn 208) (Extern.ReflectliteType.relation "Implements" Extern.ReflectliteType.implements_):=⟨fnOk _ (by kernel_rfl),by kernel_rfl,by kernel_rfl,by kernel_rfl,by kernel_rfl⟩
theorem soundE:XRE.Sound:=by
 refine ⟨by kernel_rfl,fun g x h => ?_,fun f g h => ?_⟩
 · have h:bsel (Nat.beq g gErrT) (some errT) (gl0 g)=some x:=h
   cases hb:Nat.beq g gErrT
   · rw [hb,bsel_false] at h; exact sound0.2 g x h
   · rw [hb,bsel_true] at h; cases h; intro M; rfl
 have h:extE f=some g:=h
 unfold extE at h
 cases hb0:Nat.beq f 103
 · rw [hb0,bsel_false] at h
   cases hb1:Nat.beq f 104
   · rw [hb1,bsel_false] at h
     cases hb2:Nat.beq f 105
     · rw [hb2,bsel_false] at h
       cases hb3:Nat.beq f 123
       · rw [hb3,bsel_false] at h
         cases hb4:Nat.beq f 124
         · rw [hb4,bsel_false] at h
           cases hb5:Nat.beq f 125
           · rw [hb5,bsel_false] at h
             cases hb6:Nat.beq f 129
             · rw [hb6,bsel_false] at h
               cases hb7:Nat.beq f 195
               · rw [hb7,bsel_false] at h
                 cases hb8:Nat.beq f 205
                 · rw [hb8,bsel_false] at h
                   cases hb9:Nat.beq f 206
                   · rw [hb9,bsel_false] at h
                     cases hb10:Nat.beq f 207
                     · rw [hb10,bsel_false] at h
                       cases hb11:Nat.beq f 208
                       · rw [hb11,bsel_false] at h
                         cases h
                       · rw [hb11,bsel_true] at h; cases h
                         obtain rfl:=Nat.eq_of_beq_eq_true hb11
                         exact pureX_ok (C:=cx XRE 208 fun _ _ _ _ _=>none) isEx11
                     · rw [hb10,bsel_true] at h; cases h
                       obtain rfl:=Nat.eq_of_beq_eq_true hb10
                       exact pureX_ok (C:=cx XRE 207 fun _ _ _ _ _=>none) isEx10
                   · rw [hb9,bsel_true] at h; cases h
                     obtain rfl:=Nat.eq_of_beq_eq_true hb9
                     exact pureX_ok (C:=cx XRE 206 fun _ _ _ _ _=>none) isEx9
                 · rw [hb8,bsel_true] at h; cases h
                   obtain rfl:=Nat.eq_of_beq_eq_true hb8
                   exact pureX_ok (C:=cx XRE 205 fun _ _ _ _ _=>none) isEx8
               · rw [hb7,bsel_true] at h; cases h
                 obtain rfl:=Nat.eq_of_beq_eq_true hb7
                 exact pureX_ok (C:=cx XRE 195 fun _ _ _ _ _=>none) isEx7
             · rw [hb6,bsel_true] at h; cases h
               obtain rfl:=Nat.eq_of_beq_eq_true hb6
               exact pureX_ok (C:=cx XRE 129 fun _ _ _ _ _=>none) isEx6
           · rw [hb5,bsel_true] at h; cases h
             obtain rfl:=Nat.eq_of_beq_eq_true hb5
             exact set_ok (C:=cx XRE 125 fun _ _ _ _ _=>none) isEx5
         · rw [hb4,bsel_true] at h; cases h
           obtain rfl:=Nat.eq_of_beq_eq_true hb4
           exact elem_ok (C:=cx XRE 124 fun _ _ _ _ _=>none) isEx4
       · rw [hb3,bsel_true] at h; cases h
         obtain rfl:=Nat.eq_of_beq_eq_true hb3
         exact typeOf_ok (C:=cx XRE 123 fun _ _ _ _ _=>none) isEx3
     · rw [hb2,bsel_true] at h; cases h
       obtain rfl:=Nat.eq_of_beq_eq_true hb2
       exact isNil_ok (C:=cx XRE 105 fun _ _ _ _ _=>none) isEx2
   · rw [hb1,bsel_true] at h; cases h
     obtain rfl:=Nat.eq_of_beq_eq_true hb1
     exact type_ok (C:=cx XRE 104 fun _ _ _ _ _=>none) isEx1
 · rw [hb0,bsel_true] at h; cases h
   obtain rfl:=Nat.eq_of_beq_eq_true hb0
   exact valueOf_ok (C:=cx XRE 103 fun _ _ _ _ _=>none) isEx0
abbrev FE (f:Nat)(xs:List AV)(r:AV):Prop:=FOk Tryz.prog glE f xs .nil ⟨r, .nil,[]⟩
theorem FE_of {f n:Nat}{xs:List AV}{x:AV}(h:firstR (S XRE n f xs 1 .nil [])=some x):FE f xs x:=by
 cases hs:S XRE n f xs 1 .nil [] with
 | none=>rw [hs] at h; cases h
 | some r =>
  obtain ⟨y,c,σ,ws⟩:=r
  rw [hs] at h
  have h:some y=some x:=h
  cases h
  refine FOk.drop (σ:=σ) (ws:=ws) ?_
  intro E w vals hg hh hf _ hv
  obtain ⟨h1,h2⟩:=S_ok soundE n f xs 1 .nil [] x c σ ws hs
  refine (h2 E w vals hg hh hf hv).imp ?_
  rintro v w' ⟨E',k1,k2,k3,_⟩
  exact ⟨.z,_,E',rfl,⟨fun l hl=>(h1.same l hl).2,h1.keep⟩,k1,k2,k3⟩
abbrev fKind:Nat:=33
abbrev fAtE:Nat:=34
abbrev fKnown18:Nat:=11
theorem kind_nil:FE fKind [.lit .nilIface] (i0 0):=FE_of (n:=100) (by kernel_rfl)
theorem kind_err (k a:Int):FE fKind [encErr k a] (i0 k):=FE_of (n:=100) (by kernel_rfl)
theorem at_err (k a:Int):FE fAtE [encErr k a] (i0 a):=FE_of (n:=100) (by kernel_rfl)
end
end Go.Proofs.YtpofhijgccocpaaGreatDoor
end
section
namespace Go.Proofs.YtpofhijgccocpaaGreatDoor
abbrev fXLex:Nat:=36
abbrev fXParse:Nat:=9
abbrev fXAdd:Nat:=77
abbrev fXFail:Nat:=39
abbrev fXIs:Nat:=38
abbrev fXDown:Nat:=127
abbrev fXWant:Nat:=146
abbrev fXExpr:Nat:=37
abbrev fXTerm:Nat:=76
abbrev fXPart:Nat:=107
abbrev fXRang:Nat:=126
abbrev fXAtom:Nat:=139
abbrev fXArgs:Nat:=48
abbrev fXNumber:Nat:=148
abbrev fXWordB:Nat:=75
abbrev fXIsPre:Nat:=147
abbrev fXCut:Nat:=40
end Go.Proofs.YtpofhijgccocpaaGreatDoor
end
section
namespace Go.Proofs.YtpofhijgccocpaaGreatDoor
open Go.AS Go.TP
noncomputable section
abbrev rgV (k a n:Int)(t:ByteArray)(ks:List AV):AV := .agg [i0 k,i0 a,i0 n,s0 t, .lst false 1 ks]
abbrev xSl (c n:Nat):AV := .slc 1048577 [0,c] 0 n
abbrev xRow (ts:List AV)(k d:Int)(o:AV)(bad pl:Int):AV := .agg [.lst false 3 ts,i0 k,i0 d,o,i0 bad,i0 pl]
def xHp (c:Nat)(ts:List AV)(k d:Int)(xs:List AV)(bad pl:Int):Hp:=hpL [(1048577,⟨[0,c], .row true 5 xs⟩),(1048578,⟨[1,0], .row false 6 [xRow ts k d (xSl c xs.length) bad pl]⟩)]
def xArg:AV := .ptr 1048578 [1,0] 0 0
def askX:List Nat:=[fXAdd,fXFail,fXIs,fXDown,fXWant,fXExpr,fXTerm,fXPart,fXRang,fXAtom,fXParse]
def gY (X:WX)(f:Nat)(os:Orc)(ys:List AV)(σ:Hp)(r:Back):Prop:=runF X 14 f (fn f) (code f) os 0 [] (xArg::ys) σ r
def spX (ys:List AV)(σ:Hp)(r:Back):Sp:=⟨Unit,fun _=>True,fun _=>xArg::ys,fun _=>σ,fun _=>r⟩
def XI:WX:=((XB.ask askX).askAt fXIs [19,21])
def XAd:WX:=((XB.ask askX).askAt fXAdd [13])
def XFl:WX:=((XB.ask askX).askAt fXFail [23,25])
def xIs (os:Orc)(ts:List AV)(k d:Int)(xs:List AV)(pl c:Int)(b:Bool):Prop:=gY XI fXIs os [i0 c] (xHp 0 ts k d xs 0 pl) ⟨b0 b,xHp 0 ts k d xs 0 pl,[]⟩
def xIsB (os:Orc)(ts:List AV)(k d:Int)(xs:List AV)(bad pl c:Int):Prop:=gY XI fXIs os [i0 c] (xHp 0 ts k d xs bad pl) ⟨b0 false,xHp 0 ts k d xs bad pl,[]⟩
def xFail (os:Orc)(ts:List AV)(k d:Int)(xs:List AV)(pl e a:Int):Prop:=gY XFl fXFail os [i0 e] (xHp 0 ts k d xs 0 pl) ⟨i0 0,xHp 0 ts k d xs e a,[1048578]⟩
def xFailB (os:Orc)(ts:List AV)(k d:Int)(xs:List AV)(bad pl e:Int):Prop:=gY XFl fXFail os [i0 e] (xHp 0 ts k d xs bad pl) ⟨i0 0,xHp 0 ts k d xs bad pl,[]⟩
def xAdd (os:Orc)(ts:List AV)(k d:Int)(xs:List AV)(bad pl kk a m:Int)(t:ByteArray)(ks:List AV):Prop:=gY XAd fXAdd os [rgV kk a m t ks] (xHp 0 ts k d xs bad pl) ⟨i0 xs.length,xHp 1 ts k d (xs++[rgV kk a m t ks]) bad pl,[1048577,1048578]⟩
def xDownY (os:Orc)(ts:List AV)(k d:Int)(xs:List AV)(bad pl:Int):Prop:=gY (XB.ask askX) fXDown os [] (xHp 0 ts k d xs bad pl) ⟨b0 true,xHp 0 ts (k+1) (d+1) xs bad pl,[1048578]⟩
def XD (ts:List AV)(k d:Int)(xs:List AV)(bad pl bad' pl' e:Int):WX:=(XB.add fXFail (Sp.con [spX [i0 e] (xHp 0 ts k d xs bad pl) ⟨i0 0,xHp 0 ts k d xs bad' pl',[1048578]⟩])).ask askX
def xDownN (os:Orc)(ts:List AV)(k d:Int)(xs:List AV)(bad pl bad' pl':Int):Prop:=gY (XD ts k d xs bad pl bad' pl' 16) fXDown os [] (xHp 0 ts k d xs bad pl) ⟨b0 false,xHp 0 ts k d xs bad' pl',[1048578]⟩
def XW (ts:List AV)(k d:Int)(xs:List AV)(bad pl bad' pl' c:Int)(b:Bool):WX:=((XB.add fXFail (Sp.con [spX [i0 15] (xHp 0 ts k d xs bad pl) ⟨i0 0,xHp 0 ts k d xs bad' pl',[1048578]⟩])).add fXIs (Sp.con [spX [i0 c] (xHp 0 ts k d xs bad pl) ⟨b0 b,xHp 0 ts k d xs bad pl,[]⟩])).ask askX
def xWantY (os:Orc)(ts:List AV)(k d:Int)(xs:List AV)(bad pl bad' pl' c:Int):Prop:=gY (XW ts k d xs bad pl bad' pl' c true) fXWant os [i0 c] (xHp 0 ts k d xs bad pl) ⟨b0 true,xHp 0 ts (k+1) d xs bad pl,[1048578]⟩
def xWantN (os:Orc)(ts:List AV)(k d:Int)(xs:List AV)(bad pl bad' pl' c:Int):Prop:=gY (XW ts k d xs bad pl bad' pl' c false) fXWant os [i0 c] (xHp 0 ts k d xs bad pl) ⟨b0 false,xHp 0 ts k d xs bad' pl',[1048578]⟩
end
end Go.Proofs.YtpofhijgccocpaaGreatDoor
end
section
namespace Go.Proofs.YtpofhijgccocpaaGreatDoor
open Go Go.AS Go.TP
noncomputable abbrev qVQ10:=[i0 (0:Int),i0 (0:Int),i0 (0:Int),s0 (Nd.text (Nd.mk (0:Int) (0:Int) (0:Int) ByteArray.empty [])),AV.lst false 5 (encL (Nd.kids (Nd.mk (0:Int) (0:Int) (0:Int) ByteArray.empty [])))]
theorem gParL_vc (s:ByteArray):gParL (Orc.t Orc.z) s=(U1 [s0 s] [] (Yt (Wk (AV.tup [AV.agg [i0 (0:Int),i0 (0:Int),i0 (0:Int),s0 ⟨⟨[]⟩⟩,AV.lit (Value.slice none 0 0)],AV.iface 26 (i0 (5:Int))]) (AV.tup [AV.agg (qVQ10),AV.iface 26 (i0 (5:Int))])∧SameH (hpL []) (hpL [])))):=by kernel_rfl
theorem gParB_vc (s:ByteArray)(i:Int):gParB (Orc.t Orc.z) s i=(let z1:=AV.iface 118 (AV.ref (AV.agg [i0 i,AV.iface 26 (i0 (15:Int))])); U1 [s0 s] [] (Yt (Wk (AV.tup [AV.agg [i0 (0:Int),i0 (0:Int),i0 (0:Int),s0 ⟨⟨[]⟩⟩,AV.lit (Value.slice none 0 0)],z1]) (AV.tup [AV.agg (qVQ10),z1])∧SameH (hpL []) (hpL [])))):=by kernel_rfl
theorem gParE_vc (s:ByteArray)(ts ts':List AV)(n:Nd)(k a:Int):gParE (Orc.f (Orc.f (Orc.t Orc.z))) s ts ts' n k a=(let z1:=[eR 1048577 [0,0] 2 [AV.agg [AV.lst false 3 ts,i0 (0:Int)]]]; let z2:=AV.iface 118 (AV.ref (AV.agg [i0 a,AV.iface 26 (i0 k)])); U1 [s0 s] [] (Nf (U1 [AV.ptr 1048577 [0,0] 0 0] z1 (Nf (Yt (Wk (AV.tup [AV.agg [i0 (0:Int),i0 (0:Int),i0 (0:Int),s0 ⟨⟨[]⟩⟩,AV.lit (Value.slice none 0 0)],z2]) (AV.tup [AV.agg (qVQ10),z2])∧SameH (hpL []) (hpL []))))))):=by kernel_rfl
def ogParO:Orc:=Orc.f (Orc.t (Orc.f (Orc.f (Orc.f Orc.z))))
theorem gParO_vc (s:ByteArray)(ts:List AV)(a:Int)(x:ByteArray)(r:List AV)(n:Nd):gParO ogParO s ts a x r n=(let z1:=[eR 1048577 [0,0] 2 [AV.agg [AV.lst false 3 ts,i0 (0:Int)]]]; let z2:=(AV.tup [encP n,AV.lit Value.nilIface]); U1 [s0 s] [] (Nf (U1 [AV.ptr 1048577 [0,0] 0 0] z1 (Yt (Nf (Nf (Nf (Wk z2 z2∧SameH (hpL []) (hpL []))))))))):=by kernel_rfl
def ogParX:Orc:=Orc.f (Orc.t (Orc.t (Orc.t Orc.z)))
theorem gParX_vc (s:ByteArray)(ts:List AV)(k a:Int)(x:ByteArray)(r:List AV)(n:Nd):gParX ogParX s ts k a x r n=(let z1:=AV.iface 118 (AV.ref (AV.agg [i0 a,AV.iface 26 (i0 (15:Int))])); let z2:=[eR 1048577 [0,0] 2 [AV.agg [AV.lst false 3 ts,i0 (0:Int)]]]; U1 [s0 s] [] (Nf (U1 [AV.ptr 1048577 [0,0] 0 0] z2 (Yt ((k != (11:Int))=true∧Yt (Wk (AV.tup [AV.agg [i0 (0:Int),i0 (0:Int),i0 (0:Int),s0 ⟨⟨[]⟩⟩,AV.lit (Value.slice none 0 0)],z1]) (AV.tup [AV.agg (qVQ10),z1])∧SameH (hpL []) (hpL []))))))):=by kernel_rfl
end Go.Proofs.YtpofhijgccocpaaGreatDoor
end
section
namespace Go.Proofs.YtpofhijgccocpaaGreatDoor
open Go.AS Go.TP
noncomputable section
theorem wordedS_11 (s:ByteArray):wordedS s≠11:=by
 unfold wordedS
 by_cases h:s=bOr
 · rw [if_pos h]; decide
 rw [if_neg h]
 by_cases h:s=bAnd
 · rw [if_pos h]; decide
 rw [if_neg h]
 by_cases h:s=bNot
 · rw [if_pos h]; decide
 rw [if_neg h]
 by_cases h:s=bMinus
 · rw [if_pos h]; decide
 rw [if_neg h]; decide
theorem signC_11 (c:Nat)(s:ByteArray):(signC c s).1≠11:=by
 unfold signC
 repeat' split
 all_goals decide
theorem oneS_11 (s:ByteArray):(oneS s).1≠11:=by
 unfold oneS
 split
 · exact wordedS_11 _
 · exact signC_11 _ _
theorem okT_app:∀ (ts:List Tk)(e:Tk),(∀ t∈ts,t.kind≠11∧t.text.size≤600)→e.kind=11→e.text.size≤600→okT (ts++[e])
 | [],e,_,h1,h2=>⟨h2,h1⟩
 | t::ts,e,h,h1,h2=>by
  have ih:=okT_app ts e (fun u hu=>h u (List.mem_cons_of_mem _ hu)) h1 h2
  have ht:=h t (List.mem_cons_self ..)
  show okT (t::(ts++[e]))
  cases hc:ts++[e] with
  | nil=>simp at hc
  | cons u r=>rw [hc] at ih; exact ⟨ht.2,ht.1,ih⟩
theorem lexG_ok (s:ByteArray)(hs:s.size≤600):∀ (f:Nat)(i:Int)(out ts:List Tk),(∀ t∈out,t.kind≠11∧t.text.size≤600)→lexG s f i out=(none,ts)→∀ t∈ts,t.kind≠11∧t.text.size≤600:=by
 intro f
 induction f with
 | zero=>intro i out ts h e; cases e; exact h
 | succ f ih =>
  intro i out ts h e
  rw [lexG] at e
  by_cases hi:i<s.size
  · rw [if_pos hi] at e
    by_cases hb:blankN (byteAt s i.toNat)=true
    · rw [if_pos hb] at e; exact ih _ _ _ h e
    · rw [if_neg hb] at e
      have e:(if (oneS (restS s i)).1=0 then (some i,[]) else lexG s f (i+(oneS (restS s i)).2) (out++[tokAt s i]))=(none,ts):=e
      by_cases ho:(oneS (restS s i)).1=0
      · rw [if_pos ho] at e; cases e
      · rw [if_neg ho] at e
        refine ih _ _ _ (fun t ht => ?_) e
        rcases List.mem_append.1 ht with ht | ht
        · exact h t ht
        · obtain rfl:=List.mem_singleton.1 ht
          refine ⟨oneS_11 _,?_⟩
          show (s.extract _ _).size≤600
          rw [ByteArray.size_extract]; omega
  · rw [if_neg hi] at e; cases e; exact h
theorem lexS_ok {s:ByteArray}{ts:List Tk}(h:lexS s = .ok ts):okT ts:=by
 unfold lexS at h
 by_cases hs:600<s.size
 · rw [if_pos hs] at h; cases h
 · rw [if_neg hs] at h
   have hg:=lexG_ok s (by omega) s.size 0 []
   generalize lexG s s.size 0 []=R at h hg
   obtain ⟨_ | j,us⟩:=R
   · cases h
     exact okT_app us _ (hg us (fun t ht=>by cases ht) rfl) rfl (Nat.zero_le _)
   · cases h
theorem zero_wk:Wk (.agg [i0 0,i0 0,i0 0,s0 ByteArray.empty, .lit (.slice none 0 0)]) zeroV := .agg (.cons (.refl _) (.cons (.refl _) (.cons (.refl _) (.cons (.refl _) (.cons .nilS .nil)))))
theorem gParL_ok (s:ByteArray):gParL (Orc.t Orc.z) s:=by
 rw [gParL_vc]; exact ⟨(),⟨trivial, .refl _,rfl⟩,rfl, .tup (.cons zero_wk (.refl _)), .rfl⟩
theorem gParB_ok (s:ByteArray)(i:Int):gParB (Orc.t Orc.z) s i:=by
 rw [gParB_vc]; exact ⟨(),⟨trivial, .refl _,rfl⟩,rfl, .tup (.cons zero_wk (.refl _)), .rfl⟩
theorem gParE_ok (s:ByteArray)(ts ts':List AV)(n:Nd)(k a:Int):gParE (Orc.f (Orc.f (Orc.t Orc.z))) s ts ts' n k a:=by
 rw [gParE_vc]; exact ⟨(),⟨trivial, .refl _,rfl⟩,rfl,(),⟨trivial, .refl _,rfl⟩,rfl,rfl, .tup (.cons zero_wk (.refl _)), .rfl⟩
theorem gParO_ok (s:ByteArray)(ts:List AV)(a:Int)(x:ByteArray)(r:List AV)(n:Nd):gParO ogParO s ts a x r n:=by
 rw [gParO_vc]; exact ⟨(),⟨trivial, .refl _,rfl⟩,rfl,(),⟨trivial, .refl _,rfl⟩,rfl,rfl,rfl,rfl, .refl _, .rfl⟩
theorem gParX_ok (s:ByteArray)(ts:List AV)(k a:Int)(x:ByteArray)(r:List AV)(n:Nd)(hk:k≠11):gParX ogParX s ts k a x r n:=by
 rw [gParX_vc]; exact ⟨(),⟨trivial, .refl _,rfl⟩,rfl,(),⟨trivial, .refl _,rfl⟩,rfl,bne_iff_ne.2 hk,rfl, .tup (.cons zero_wk (.refl _)), .rfl⟩
attribute [local irreducible] runF in
set_option maxRecDepth 100000 in
theorem parFn {X:WX}(hX:X.Sound)(hp:X.px=X0T){os:Orc}{s:ByteArray}{x:AV}(g:gPar X os s x):F fParse [s0 s] x:=by
 have hP:X.px.P=Tryz.prog:=by rw [hp]; rfl
 have hg:X.px.gl=gl0:=by rw [hp]; rfl
 have:=fn_ok (X:=X.ask [fParse,fPExpect,fPNext,fPTake]) (d:=12) (hX.ask _) (f:=fParse) (fn:=fn fParse) (code:=code fParse) (by show X.px.P.funcs[fParse]?=_; rw [hP]; exact fnOk fParse (by kernel_rfl)) (show (fn fParse).body=some (code fParse) by kernel_rfl) (by kernel_rfl) g
 show FOk Tryz.prog gl0 fParse _ _ _
 rw [←hg,←hP]; exact this
theorem XL_ok {s:ByteArray}{x:AV}(h:F fLex [s0 s] x):(XL s x).Sound:=XT_ok.add (conOk1 (s:=spLex s x) fun _ _=>h)
theorem XLP_ok {s:ByteArray}{ts ts':List AV}{n e:AV}(h:F fLex [s0 s] (.tup [.lst false 3 ts, .lit .nilIface]))(h2:FOk Tryz.prog gl0 fPExpr [pArg] (pHeap ts 0) (pOut ts' 0 n e)):(XLP s ts ts' n e).Sound:=(XL_ok h).add (conOk1 (s:=spP ts ts' 0 n e) fun _ _=>h2)
set_option maxRecDepth 100000 in
theorem parO_ok {s:ByteArray}{ts:List Tk}(hl:F fLex [s0 s] (encLex (.ok ts))){r:R}(hp:FOk Tryz.prog gl0 fPExpr [pArg] (pHeap (ts.map encT) 0) (pOut (r.ts.map encT) 0 (encP r.n) (encE r.e)))(hi:okT r.ts):F fParse [s0 s] (encPar (parOf r)):=by
 obtain ⟨n,e,us⟩:=r
 cases e with
 | some ka=>obtain ⟨k,a⟩:=ka; exact parFn (XLP_ok hl hp) rfl (gParE_ok s _ _ n k a)
 | none =>
  cases us with
  | nil=>exact hi.elim
  | cons u us' =>
   obtain ⟨k,a,x⟩:=u
   by_cases hk:k=11
   · subst hk
     exact parFn (XLP_ok hl hp) rfl (gParO_ok s _ a x (us'.map encT) n)
   · have e:parOf ⟨n,none,⟨k,a,x⟩::us'⟩ = .bad 15 a:=if_neg hk
     rw [e]
     exact parFn (XLP_ok hl hp) rfl (gParX_ok s _ k a x (us'.map encT) n hk)
set_option maxRecDepth 100000 in
theorem parse_ok (s:ByteArray):F fParse [s0 s] (encPar (parseS s)):=by
 have hl:=lex_ok s
 have ho:=@lexS_ok s
 unfold parseS
 generalize lexS s=L at hl ho
 cases L with
 | long=>exact parFn (XL_ok hl) rfl (gParL_ok s)
 | bad i=>exact parFn (XL_ok hl) rfl (gParB_ok s i)
 | ok ts =>
  have hts:=ho rfl
  exact parO_ok hl (PF_ok (5*ts.length+5) .expr 0 ts (Int.le_refl _) (by decide) hts (Nat.le_refl _)) (PF_inv (5*ts.length+5) .expr 0 ts hts).1
end
end Go.Proofs.YtpofhijgccocpaaGreatDoor
end
section
namespace Go.TP
open Go.AS
mutual
def fineS:Nd→Prop
 | .mk _ _ _ t ks=>t.size≤600∧fineL ks
def fineL:List Nd→Prop
 | []=>True
 | n::r=>fineS n∧fineL r
end
theorem e0:ByteArray.empty.size≤600:=Nat.zero_le _
end Go.TP
end
section
namespace Go.Proofs.YtpofhijgccocpaaGreatDoor
end Go.Proofs.YtpofhijgccocpaaGreatDoor
end
section
namespace Go.Proofs.YtpofhijgccocpaaGreatDoor
open Go.AS Go.TP
noncomputable section
structure NV where
 k:Int
 a:Int
 m:Int
 t:ByteArray
 ks:List AV
end
end Go.Proofs.YtpofhijgccocpaaGreatDoor
end
section
namespace Go.Proofs.YtpofhijgccocpaaGreatDoor
open Go Go.AS Go.TP
end Go.Proofs.YtpofhijgccocpaaGreatDoor
end
section
namespace Go.TP
open Go.AS
mutual
def leafS:Nd→Nat
 | .mk _ _ _ _ ks=>leafL ks
def leafL:List Nd→Nat
 | []=>1
 | n::r=>leafS n+match r with
  | []=>0
  | _::_=>leafL r
end
def Lf (ts:List Tk)(r:R):Prop:=leafS r.n+r.ts.length≤ts.length+1
theorem take_len {ts:List Tk}(h:okT ts)(hk:(headT ts).kind≠11):(takeT ts).length+1=ts.length:=by
 cases ts with
 | nil=>exact h.elim
 | cons t r=>have hk:t.kind≠11:=hk; rw [takeT_cons hk]; rfl
theorem Lf.of {ts us:List Tk}{r:R}(h:Lf us r)(hl:us.length≤ts.length):Lf ts r:=by unfold Lf at *; omega
end Go.TP
end
section
namespace Go.Proofs.YtpofhijgccocpaaGreatDoor
open Go.AS Go.TP
noncomputable section
end
end Go.Proofs.YtpofhijgccocpaaGreatDoor
end
section
namespace Go.Proofs.YtpofhijgccocpaaGreatDoor
open Go.AS Go.TP
noncomputable section
end
end Go.Proofs.YtpofhijgccocpaaGreatDoor
end
section
namespace Go.Proofs.YtpofhijgccocpaaGreatDoor
open Go.AS Go.TP
noncomputable section
abbrev fSameN:Nat:=24
def treeV (ns:List AV):AV := .agg [.lst false 5 ns]
abbrev nV (k a m:Int)(t:ByteArray)(vs:List AV):AV := .agg [i0 k,i0 a,i0 m,s0 t, .lst false 5 vs]
def XSN (ns:List AV)(ks:List (AV × Int)):WX:=(XB.add fSameN (Sp.con (ks.map fun q=>⟨Unit,fun _=>True,fun _=>[q.1,treeV ns,i0 q.2],fun _ => .nil,fun _=>⟨b0 true, .nil,[]⟩⟩)))
def gSN (X:WX)(os:Orc)(n:AV)(ns:List AV)(p:Int):Prop:=runF ((X.ask [fSameN]).askAt fSameN [12,13,65,66]) 12 fSameN (fn fSameN) (code fSameN) os 0 [] [n,treeV ns,i0 p] .nil ⟨b0 true, .nil,[]⟩
def gSN0 (os:Orc)(ns:List AV)(p k a m:Int)(t:ByteArray):Prop:=gSN XB os (nV k a m t []) ns p
def gSN1 (os:Orc)(ns:List AV)(p k a m:Int)(t:ByteArray)(k1 a1 m1:Int)(t1:ByteArray)(v1:List AV)(b:Int):Prop:=gSN (XSN ns [(nV k1 a1 m1 t1 v1,b)]) os (nV k a m t [nV k1 a1 m1 t1 v1]) ns p
def gSN2 (os:Orc)(ns:List AV)(p k a m:Int)(t:ByteArray)(k1 a1 m1:Int)(t1:ByteArray)(v1:List AV)(k2 a2 m2:Int)(t2:ByteArray)(v2:List AV)(b c:Int):Prop:=gSN (XSN ns [(nV k1 a1 m1 t1 v1,b),(nV k2 a2 m2 t2 v2,c)]) os (nV k a m t [nV k1 a1 m1 t1 v1,nV k2 a2 m2 t2 v2]) ns p
end
end Go.Proofs.YtpofhijgccocpaaGreatDoor
end
section
namespace Go.Proofs.YtpofhijgccocpaaGreatDoor
open Go Go.AS Go.TP
noncomputable abbrev qVK10 (ts:List AV)(k:Int)(d:Int)(xs:List AV)(bad:Int)(pl:Int):=[AV.agg [AV.lst false 3 ts,i0 k,i0 d,AV.slc 1048577 [0,0] 0 (List.length xs),i0 bad,i0 pl]]
theorem xIs_vc (ts:List AV)(k d:Int)(xs:List AV)(pl c:Int)(b:Bool):xIs (Orc.t (Orc.t (Orc.t (Orc.t (Orc.t (Orc.t (Orc.t (Orc.t (Orc.t (Orc.t (Orc.t (Orc.t (Orc.t Orc.z))))))))))))) ts k d xs pl c b=(let z1:=[AV.agg [AV.lst false 3 ts,i0 k,i0 d,AV.slc 1048577 [0,0] 0 (List.length xs),i0 (0:Int),i0 pl]]; Yt4 (Yt4 (Yt ((decide ((0:Int)≤k∧k<(↑(List.length ts):Int))&&(true&&(isShp (Cx.B (cxV XI 14 fXIs)) shN 124 (List.getD ts (Int.toNat k) (AV.lit (Value.tuple { toList:=[] })))&&(true||false))))=true∧Yt4 (Wk (b0 (intA (nthA 0 (List.getD ts (Int.toNat k) (AV.lit (Value.tuple { toList:=[] }))))==c)) (b0 b)∧SameH (hpL [eR 1048577 [0,0] 5 xs,(1048578,{ id:=[1,0],obj:=AObj.row false 6 z1 })]) (hpL [eR 1048577 [0,0] 5 xs,(1048578,{ id:=[1,0],obj:=AObj.row false 6 z1 })])))))):=by kernel_rfl
theorem xIsB_vc (ts:List AV)(k d:Int)(xs:List AV)(bad pl c:Int):xIsB (Orc.f (Orc.f (Orc.f (Orc.f (Orc.f (Orc.f (Orc.f (Orc.f (Orc.f (Orc.f (Orc.f (Orc.f (Orc.f Orc.z))))))))))))) ts k d xs bad pl c=((bad==(0:Int))=false∧Nf4 (Nf4 (Nf4 (Wk (b0 false) (b0 false)∧SameH (hpL [eR 1048577 [0,0] 5 xs,(1048578,{ id:=[1,0],obj:=AObj.row false 6 (qVK10 ts k d xs bad pl) })]) (hpL [eR 1048577 [0,0] 5 xs,(1048578,{ id:=[1,0],obj:=AObj.row false 6 (qVK10 ts k d xs bad pl) })]))))):=by kernel_rfl
theorem xFail_vc (ts:List AV)(k d:Int)(xs:List AV)(pl e a:Int):xFail (Orc.t Orc.z) ts k d xs pl e a=(let z1:=AV.slc 1048577 [0,0] 0 (List.length xs); Yt ((decide ((0:Int)≤k∧k<(↑(List.length ts):Int))&&(true&&(isShp (Cx.B (cxV XFl 14 fXFail)) shN 124 (List.getD ts (Int.toNat k) (AV.lit (Value.tuple { toList:=[] })))&&(true||false))))=true∧Wk (i0 (0:Int)) (i0 (0:Int))∧SameH (hpL [eR 1048577 [0,0] 5 xs,(1048578,{ id:=[1,0],obj:=AObj.row false 6 [AV.agg [AV.lst false 3 ts,i0 k,i0 d,z1,i0 e,i0 (intA (nthA 1 (List.getD ts (Int.toNat k) (AV.lit (Value.tuple { toList:=[] })))))]] })]) (hpL [eR 1048577 [0,0] 5 xs,(1048578,{ id:=[1,0],obj:=AObj.row false 6 [AV.agg [AV.lst false 3 ts,i0 k,i0 d,z1,i0 e,i0 a]] })]))):=by kernel_rfl
theorem xFailB_vc (ts:List AV)(k d:Int)(xs:List AV)(bad pl e:Int):xFailB (Orc.f Orc.z) ts k d xs bad pl e=((bad==(0:Int))=false∧Wk (i0 (0:Int)) (i0 (0:Int))∧SameH (hpL [eR 1048577 [0,0] 5 xs,(1048578,{ id:=[1,0],obj:=AObj.row false 6 (qVK10 ts k d xs bad pl) })]) (hpL [eR 1048577 [0,0] 5 xs,(1048578,{ id:=[1,0],obj:=AObj.row false 6 (qVK10 ts k d xs bad pl) })])):=by kernel_rfl
theorem xAdd_vc (ts:List AV)(k d:Int)(xs:List AV)(bad pl:Int)(kk a m:Int)(t:ByteArray)(ks:List AV):xAdd (Orc.z) ts k d xs bad pl kk a m t ks=(let z1:=(List.take (List.length xs) (List.drop 0 xs)++[AV.agg [i0 kk,i0 a,i0 m,s0 t,AV.lst false 1 ks]]); let z2:=(xs++[AV.agg [i0 kk,i0 a,i0 m,s0 t,AV.lst false 1 ks]]); let z3:=((↑(List.length z1):Int)-(1:Int)); (true&&(true&&Nat.ble (0+List.length xs) (List.length xs))&&(true&&decide (List.length z1*64≤140737488355328∧List.length z1≤1152921504606846976)))=true∧inR IntKind.i64 z3=true∧Wk (i0 z3) (i0 (↑(List.length xs):Int))∧SameH (hpL [eR 1048577 [0,1] 5 z1,(1048578,{ id:=[1,0],obj:=AObj.row false 6 [AV.agg [AV.lst false 3 ts,i0 k,i0 d,AV.slc 1048577 [0,1] 0 (List.length z1),i0 bad,i0 pl]] })]) (hpL [eR 1048577 [0,1] 5 z2,(1048578,{ id:=[1,0],obj:=AObj.row false 6 [AV.agg [AV.lst false 3 ts,i0 k,i0 d,AV.slc 1048577 [0,1] 0 (List.length z2),i0 bad,i0 pl]] })])):=by kernel_rfl
theorem xDownY_vc (ts:List AV)(k d:Int)(xs:List AV)(bad pl:Int):xDownY (Orc.f Orc.z) ts k d xs bad pl=(let z1:=[AV.agg [AV.lst false 3 ts,i0 (k+(1:Int)),i0 (d+(1:Int)),AV.slc 1048577 [0,0] 0 (List.length xs),i0 bad,i0 pl]]; decide (d≥(24:Int))=false∧inR IntKind.i64 (d+(1:Int))=true∧inR IntKind.i64 (k+(1:Int))=true∧Wk (b0 true) (b0 true)∧SameH (hpL [eR 1048577 [0,0] 5 xs,(1048578,{ id:=[1,0],obj:=AObj.row false 6 z1 })]) (hpL [eR 1048577 [0,0] 5 xs,(1048578,{ id:=[1,0],obj:=AObj.row false 6 z1 })])):=by kernel_rfl
theorem xDownN_vc (ts:List AV)(k d:Int)(xs:List AV)(bad pl:Int)(bad' pl':Int):xDownN (Orc.t Orc.z) ts k d xs bad pl bad' pl'=(let z1:=[AV.agg [AV.lst false 3 ts,i0 k,i0 d,AV.slc 1048577 [0,0] 0 (List.length xs),i0 bad',i0 pl']]; let z2:=eR 1048577 [0,0] 5 xs; let z3:=[AV.ptr 1048578 [1,0] 0 0,i0 (16:Int)]; decide (d≥(24:Int))=true∧U1 z3 [z2,(1048578,{ id:=[1,0],obj:=AObj.row false 6 (qVK10 ts k d xs bad pl) })] (Wk (b0 false) (b0 false)∧SameH (hpL [z2,(1048578,{ id:=[1,0],obj:=AObj.row false 6 z1 })]) (hpL [z2,(1048578,{ id:=[1,0],obj:=AObj.row false 6 z1 })]))):=by kernel_rfl
theorem xWantY_vc (ts:List AV)(k d:Int)(xs:List AV)(bad pl:Int)(bad' pl' c:Int):xWantY (Orc.f Orc.z) ts k d xs bad pl bad' pl' c=(let z1:=[AV.agg [AV.lst false 3 ts,i0 (k+(1:Int)),i0 d,AV.slc 1048577 [0,0] 0 (List.length xs),i0 bad,i0 pl]]; let z2:=eR 1048577 [0,0] 5 xs; U1 [AV.ptr 1048578 [1,0] 0 0,i0 c] [z2,(1048578,{ id:=[1,0],obj:=AObj.row false 6 (qVK10 ts k d xs bad pl) })] (Nf (inR IntKind.i64 (k+(1:Int))=true∧Wk (b0 true) (b0 true)∧SameH (hpL [z2,(1048578,{ id:=[1,0],obj:=AObj.row false 6 z1 })]) (hpL [z2,(1048578,{ id:=[1,0],obj:=AObj.row false 6 z1 })])))):=by kernel_rfl
theorem xWantN_vc (ts:List AV)(k d:Int)(xs:List AV)(bad pl:Int)(bad' pl' c:Int):xWantN (Orc.t Orc.z) ts k d xs bad pl bad' pl' c=(let z1:=[AV.agg [AV.lst false 3 ts,i0 k,i0 d,AV.slc 1048577 [0,0] 0 (List.length xs),i0 bad',i0 pl']]; let z2:=eR 1048577 [0,0] 5 xs; let z3:=AV.ptr 1048578 [1,0] 0 0; let z4:=(qVK10 ts k d xs bad pl); U1 [z3,i0 c] [z2,(1048578,{ id:=[1,0],obj:=AObj.row false 6 z4 })] (Yt (U1 [z3,i0 (15:Int)] [z2,(1048578,{ id:=[1,0],obj:=AObj.row false 6 z4 })] (Wk (b0 false) (b0 false)∧SameH (hpL [z2,(1048578,{ id:=[1,0],obj:=AObj.row false 6 z1 })]) (hpL [z2,(1048578,{ id:=[1,0],obj:=AObj.row false 6 z1 })]))))):=by kernel_rfl
end Go.Proofs.YtpofhijgccocpaaGreatDoor
end
section
namespace Go.TP
open Go.AS
def offL:Lv→Nat
 | .expr=>5
 | .term=>4
 | .part=>3
 | .ranged=>2
 | .atom=>1
def Rt (r:R):Prop:=r.e=none→rightS r.n=true
theorem rt_err {n:Nd}{x:Int × Int}{ts:List Tk}:Rt ⟨n,some x,ts⟩:=fun h=>by cases h
theorem right_two {k:Int}(hk:k=2∨k=3∨k=4∨k=8∨k=9){a:Int}{x y:Nd}(hx:rightS x=true)(hy:rightS y=true):rightS (.mk k a 0 ByteArray.empty [x,y])=true:=by
 refine right_inv.2 ⟨?_,fun z hz => ?_⟩
 · rcases hk with rfl | rfl | rfl | rfl | rfl <;> rfl
 · rcases List.mem_cons.1 hz with rfl | hz
   · exact hx
   · rw [List.mem_singleton.1 hz]; exact hy
theorem kmE_ne {k:Int}(h:kmE k≠0):kmE k=2∨kmE k=3∨kmE k=4∨kmE k=8∨kmE k=9:=by
 unfold kmE at h ⊢
 split
 · exact .inl rfl
 · split
   · exact .inr (.inl rfl)
   · rename_i h1 h2; rw [if_neg h1,if_neg h2] at h; exact absurd rfl h
theorem kmT_ne {k:Int}(h:kmT k≠0):kmT k=2∨kmT k=3∨kmT k=4∨kmT k=8∨kmT k=9:=by
 unfold kmT at h ⊢
 split
 · exact .inr (.inr (.inl rfl))
 · rename_i h1; rw [if_neg h1] at h; exact absurd rfl h
theorem chain_rt {part:List Tk→R}{N:Nat}(hp:∀ ts,okT ts→Inv ts (part ts))(hq:∀ ts,okT ts→ts.length≤N→Rt (part ts))(km:Int→Int)(hk:∀ k,km k≠0→km k=2∨km k=3∨km k=4∨km k=8∨km k=9):∀ (n:Nat)(r:R),okT r.ts→r.ts.length≤N→Rt r→Rt (chainS part km n r)
 | 0,r,_,_,h=>by rw [chainS]; exact h
 | n+1,r,h,hl,hn=>by
  rw [chainS]
  split
  · rename_i hc
    have h1:=takeT_ok h
    have hl2:(takeT r.ts).length≤N:=Nat.le_trans h1.2 hl
    have h2:=hp _ h1.1
    refine chain_rt hp hq km hk n ⟨.mk (km (headT r.ts).kind) (headT r.ts).at_ 0 ByteArray.empty [r.n,(part (takeT r.ts)).n],(part (takeT r.ts)).e,(part (takeT r.ts)).ts⟩ h2.1 (Nat.le_trans h2.2 hl2) ?_
    intro he
    exact right_two (hk _ hc.2) (hn hc.1) (hq _ h1.1 hl2 he)
  · exact hn
theorem within_rt {d:Int}{t:Tk}{n0:Nd}{us:List Tk}{f:Int→List Tk→R}(hf:Rt (f (d+1) us)):Rt (withinS d t n0 us f):=by
 unfold withinS
 split
 · exact rt_err
 · exact hf
theorem numB_le:∀ (l:List UInt8)(a:Int),l.all isDigB=true→0≤a→0≤l.foldl (fun a c=>10*a+(c.toNat-48:Int)) a∧l.foldl (fun a c=>10*a+(c.toNat-48:Int)) a<10 ^ l.length*(a+1)
 | [],a,_,h=>⟨h,by simp only [List.foldl_nil,List.length_nil]; omega⟩
 | c::l,a,hd,h=>by
  rw [List.all_cons,Bool.and_eq_true] at hd
  have hc:48≤c.toNat∧c.toNat≤57:=by
   have:=hd.1
   unfold isDigB at this
   rw [Bool.and_eq_true] at this
   exact ⟨UInt8.le_iff_toNat_le.1 (of_decide_eq_true this.1),UInt8.le_iff_toNat_le.1 (of_decide_eq_true this.2)⟩
  obtain ⟨h1,h2⟩:=numB_le l (10*a+(c.toNat-48:Int)) hd.2 (by omega)
  refine ⟨h1,?_⟩
  rw [List.foldl_cons,List.length_cons,Int.pow_succ]
  refine Int.lt_of_lt_of_le h2 ?_
  rw [Int.mul_assoc]
  exact Int.mul_le_mul_of_nonneg_left (by omega) (Int.pow_nonneg (by decide))
theorem number_le {t:Tk}{k:Int}(h:numberS t=some k):0≤k∧k≤999999:=by
 unfold numberS at h
 split at h
 · rename_i hc
   cases h
   obtain ⟨h1,h2⟩:=numB_le t.text.data.toList 0 hc.2.1 (Int.le_refl _)
   refine ⟨h1,?_⟩
   have hl:t.text.data.toList.length≤6:=by rw [Array.length_toList]; exact hc.2.2.2
   have hp:(10:Int) ^ t.text.data.toList.length≤10 ^ 6:=by
     generalize t.text.data.toList.length=n at hl
     match n,hl with
     | 0,_=>decide
     | 1,_=>decide
     | 2,_=>decide
     | 3,_=>decide
     | 4,_=>decide
     | 5,_=>decide
     | 6,_=>decide
     | n+7,h=>omega
   have h3:numB t.text.data.toList<10 ^ t.text.data.toList.length*(0+1):=h2
   have e6:(10:Int) ^ 6=1000000:=rfl
   rw [e6] at hp
   omega
 · cases h
theorem form_vals (t:ByteArray):formS t=0∨formS t=1∨formS t=2∨formS t=3:=by
 unfold formS
 split
 · simp
 · split
   · simp
   · split <;> simp
theorem right_call0 {a:Int}{t:ByteArray}(h:formS t=1):rightS (.mk 10 a 0 t [])=true:=by
 refine right_inv.2 ⟨?_,fun z hz=>by cases hz⟩
 have e1:kidsN 10 t=if formS t-1<1 then formS t-1 else 1:=rfl
 have e2:namedS 10 0 t=(decide ((0:Int)=0)||(decide (formS t=3)&&(decide ((0:Int)<0)&&decide ((0:Int)≤999999)))):=rfl
 unfold shapeS
 rw [e1,e2,h]; rfl
theorem right_call1 {a k:Int}{t:ByteArray}{x:Nd}(h:(formS t=2∧k=0)∨(formS t=3∧0≤k∧k≤999999))(hx:rightS x=true):rightS (.mk 10 a k t [x])=true:=by
 refine right_inv.2 ⟨?_,fun z hz=>by rw [List.mem_singleton.1 hz]; exact hx⟩
 have e1:kidsN 10 t=1:=form_kids (by rcases h with h | h <;> simp [h.1])
 have e2:namedS 10 k t=(decide (k=0)||(decide (formS t=3)&&(decide (0<k)&&decide (k≤999999)))):=rfl
 have e3:namedS 10 k t=true:=by
  rw [e2]
  by_cases h0:k=0
  · rw [decide_eq_true h0]; rfl
  · rcases h with ⟨_,h⟩ | ⟨h1,h2,h3⟩
    · exact absurd h h0
    · rw [decide_eq_true h1,decide_eq_true (by omega:0<k),decide_eq_true h3,Bool.or_eq_true]; exact .inr rfl
 unfold shapeS
 rw [e1,e3]; rfl
theorem right_name {a:Int}{t:ByteArray}(h:isPrefixS t=true):rightS (.mk 1 a 0 t [])=true:=by
 refine right_inv.2 ⟨?_,fun z hz=>by cases hz⟩
 have e2:namedS 1 0 t=(isPrefixS t&&decide ((0:Int)=0)):=rfl
 unfold shapeS
 rw [e2,h]; rfl
theorem call_rt {expr:Int→List Tk→R}{d:Int}{w:Tk}{ts:List Tk}(he:∀ d,Rt (expr d (takeT ts))):Rt (callS expr d w ts):=by
 unfold callS
 simp only
 split
 · exact rt_err
 · rename_i h0
   refine within_rt ?_
   split
   · rename_i h1; exact fun _=>right_call0 h1
   · rename_i h1
     have hq:=he (d+1)
     split
     · rename_i hn; exact fun h=>absurd h hn
     · rename_i hn
       have hr:=hq (Classical.not_not.1 hn)
       split
       · rename_i h2; exact fun _=>right_call1 (.inl ⟨h2,rfl⟩) hr
       · rename_i h2
         have h3:formS w.text=3:=by have:=form_vals w.text; omega
         split
         · rename_i hx; exact fun h=>absurd h hx
         · split
           · exact fun h=>by cases h
           · rename_i k hk; exact fun _=>right_call1 (.inr ⟨h3,number_le hk⟩) hr
theorem PF_rt:∀ (f:Nat)(lv:Lv)(d:Int)(ts:List Tk),okT ts→5*ts.length+offL lv≤f→Rt (PF f lv d ts)
 | 0,lv,_,ts,_,h=>by cases lv <;> simp only [offL] at h <;> omega
 | f+1, .expr,d,ts,h,hf=>by
  rw [PF]
  simp only [offL] at hf
  exact chain_rt (N:=ts.length) (fun us hu=>PF_inv f .term d us hu) (fun us hu hl=>PF_rt f .term d us hu (by simp only [offL]; omega)) kmE (fun _=>kmE_ne) f _ (PF_inv f .term d ts h).1 (PF_inv f .term d ts h).2 (PF_rt f .term d ts h (by simp only [offL]; omega))
 | f+1, .term,d,ts,h,hf=>by
  rw [PF]
  simp only [offL] at hf
  exact chain_rt (N:=ts.length) (fun us hu=>PF_inv f .part d us hu) (fun us hu hl=>PF_rt f .part d us hu (by simp only [offL]; omega)) kmT (fun _=>kmT_ne) f _ (PF_inv f .part d ts h).1 (PF_inv f .part d ts h).2 (PF_rt f .part d ts h (by simp only [offL]; omega))
 | f+1, .part,d,ts,h,hf=>by
  rw [PF]
  simp only [offL] at hf
  simp only
  split
  · exact PF_rt f .ranged d ts h (by simp only [offL]; omega)
  · rename_i hk
    have hl:=take_len h (by omega)
    refine within_rt fun he=>right_one (.inl rfl) (PF_rt f .part (d+1) _ (takeT_ok h).1 (by simp only [offL]; omega) he)
 | f+1, .ranged,d,ts,h,hf=>by
  rw [PF]
  simp only [offL] at hf
  simp only
  split
  · rename_i hk
    have hl:=take_len h (by omega)
    exact within_rt fun he=>right_one (.inr (.inl rfl)) (PF_rt f .atom (d+1) _ (takeT_ok h).1 (by simp only [offL]; omega) he)
  · have h2:=PF_rt f .atom d ts h (by simp only [offL]; omega)
    have i2:=PF_inv f .atom d ts h
    have second:∀ (d:Int)(us:List Tk)(k a:Int)(n:Nd)(m:Bool),(k=8∨k=9)→okT us→us.length≤ts.length→rightS n=true→Rt (secondS (PF f .atom d) k a n m us):=fun d us k a n m hk hu hl hn=>by
      unfold secondS
      split
      · exact fun _=>right_one (.inr (.inr rfl)) hn
      · exact fun he=>right_two (by omega) hn (PF_rt f .atom d us hu (by simp only [offL]; omega) he)
    have h3:=takeT_ok i2.1
    have l3:=Nat.le_trans h3.2 i2.2
    split
    · rename_i hn; exact fun h=>absurd h hn
    · rename_i hn
      have hr:=h2 (Classical.not_not.1 hn)
      split
      · exact within_rt (second _ _ _ _ _ _ (.inl rfl) h3.1 l3 hr)
      · split
        · exact second _ _ _ _ _ _ (.inr rfl) h3.1 l3 hr
        · exact fun _=>hr
 | f+1, .atom,d,ts,h,hf=>by
  rw [PF]
  simp only [offL] at hf
  simp only
  have h1:=takeT_ok h
  have h3:=takeT_ok h1.1
  split
  · rename_i hk
    have hl:=take_len h (by omega)
    refine within_rt ?_
    have h2:=PF_rt f .expr (d+1) _ h1.1 (by simp only [offL]; omega)
    split
    · exact h2
    · rename_i hn; exact fun _=>h2 (Classical.not_not.1 hn)
  · split
    · rename_i hk
      have hl:=take_len h (by omega)
      split
      · exact call_rt fun d=>PF_rt f .expr d _ h3.1 (by simp only [offL]; omega)
      · split
        · rename_i hp; exact fun _=>right_name hp
        · exact rt_err
    · exact fun h=>by cases h
end Go.TP
end
section
namespace Go.TP
open Go.AS
structure RN where
 kind:Int
 at_:Int
 n:Int
 text:ByteArray
 kids:List Nat
structure RS where
 ts:List Tk
 deep:Int
 out:List RN
 bad:Option (Int × Int)
def isR (k:Int)(s:RS):Bool:=s.bad.isNone&&decide ((headT s.ts).kind=k)
def failR (e:Int)(s:RS):RS:=match s.bad with
 | none=>{ s with bad:=some (e,(headT s.ts).at_) }
 | some _=>s
def addR (n:RN)(s:RS):Nat × RS:=(s.out.length,{ s with out:=s.out++[n] })
def takeR (s:RS):RS:={ s with ts:=takeT s.ts }
def downR (s:RS):Bool × RS:=if 24≤s.deep then (false,failR 16 s) else (true,{ s with deep:=s.deep+1,ts:=takeT s.ts })
def upR (s:RS):RS:={ s with deep:=s.deep-1 }
def wantR (k:Int)(s:RS):Bool × RS:=if isR k s then (true,takeR s) else (false,failR 15 s)
def chainR (part:RS→Nat × RS)(km:Int→Int)(is:RS→Bool):Nat→Nat × RS→Nat × RS
 | 0,r=>r
 | f+1,r=>if is r.2 then
   let t:=headT r.2.ts
   let q:=part (takeR r.2)
   chainR part km is f (addR ⟨km t.kind,t.at_,0,ByteArray.empty,[r.1,q.1]⟩ q.2)
  else r
def isE (s:RS):Bool:=isR 7 s||isR 8 s
def RP:Nat→Lv→RS→Nat × RS
 | 0,_,s=>(0,s)
 | f+1, .expr,s=>chainR (RP f .term) kmE isE f (RP f .term s)
 | f+1, .term,s=>chainR (RP f .part) kmT (isR 9) f (RP f .part s)
 | f+1, .part,s =>
  if isR 10 s then
   let d:=downR s
   if d.1 then
    let q:=RP f .part d.2
    addR ⟨5,(headT s.ts).at_,0,ByteArray.empty,[q.1]⟩ (upR q.2)
   else (0,d.2)
  else RP f .ranged s
 | f+1, .ranged,s =>
  if isR 5 s then
   let d:=downR s
   if d.1 then
    let q:=RP f .atom d.2
    addR ⟨6,(headT s.ts).at_,0,ByteArray.empty,[q.1]⟩ (upR q.2)
   else (0,d.2)
  else
   let a:=RP f .atom s
   if isR 5 a.2 then
    let u:=(headT a.2.ts).at_
    let d:=downR a.2
    if d.1 then
     if isR 2 d.2||isR 1 d.2 then
      let q:=RP f .atom d.2
      addR ⟨8,u,0,ByteArray.empty,[a.1,q.1]⟩ (upR q.2)
     else addR ⟨7,u,0,ByteArray.empty,[a.1]⟩ (upR d.2)
    else (0,d.2)
   else if isR 6 a.2 then
    let q:=RP f .atom (takeR a.2)
    addR ⟨9,(headT a.2.ts).at_,0,ByteArray.empty,[a.1,q.1]⟩ q.2
   else a
 | f+1, .atom,s =>
  if isR 2 s then
   let d:=downR s
   if d.1 then
    let q:=RP f .expr d.2
    (q.1,upR (wantR 3 q.2).2)
   else (0,d.2)
  else if isR 1 s then
   let w:=headT s.ts
   if (headT (takeT s.ts)).kind≠2 then
    if isPrefixS w.text then addR ⟨1,w.at_,0,w.text,[]⟩ (takeR s) else (0,failR 15 s)
   else if formS w.text=0 then (0,failR 15 s)
   else
    let d:=downR (takeR s)
    if d.1 then
     let q:=if formS w.text=1 then ([],d.2) else let q:=RP f .expr d.2; ([q.1],q.2)
     if formS w.text=3 then
      let c:=wantR 4 q.2
      if c.1 then
       match (if isR 1 c.2 then numberS (headT c.2.ts) else none) with
       | none=>(0,failR 15 c.2)
       | some k=>addR ⟨10,w.at_,k,w.text,q.1⟩ (upR (wantR 3 (takeR c.2)).2)
      else addR ⟨10,w.at_,0,w.text,q.1⟩ (upR (wantR 3 c.2).2)
     else addR ⟨10,w.at_,0,w.text,q.1⟩ (upR (wantR 3 q.2).2)
    else (0,d.2)
  else (0,failR 15 s)
theorem bad_is {s:RS}{x:Int × Int}(h:s.bad=some x)(k:Int):isR k s=false:=by unfold isR; rw [h]; rfl
theorem bad_fail {s:RS}{x:Int × Int}(h:s.bad=some x)(e:Int):failR e s=s:=by unfold failR; rw [h]
theorem bad_want {s:RS}{x:Int × Int}(h:s.bad=some x)(k:Int):(wantR k s).2=s:=by
 unfold wantR; rw [bad_is h]; exact bad_fail h _
theorem isE_bad (s:RS)(x:Int × Int)(h:s.bad=some x):isE s=false:=by unfold isE; rw [bad_is h,bad_is h]; rfl
inductive Rep (l:List RN):Nat→Nd→Prop
 | mk (a:Nat)(x:RN)(ks:List Nd)(hx:l[a]?=some x)(hl:x.kids.length=ks.length)(hlt:∀ b∈x.kids,b<a)(hk:∀ (i b:Nat)(k:Nd),x.kids[i]?=some b→ks[i]?=some k→Rep l b k):Rep l a (.mk x.kind x.at_ x.n x.text ks)
theorem Rep.mono {l:List RN}{a:Nat}{n:Nd}(h:Rep l a n)(m:List RN):Rep (l++m) a n:=by
 induction h with
 | mk a x ks hx hl hlt hk ih =>
  have ha:a<l.length:=(List.getElem?_eq_some_iff.1 hx).1
  exact .mk a x ks (by rw [List.getElem?_append_left ha]; exact hx) hl hlt ih
theorem Rep.lt {l:List RN}{a:Nat}{n:Nd}(h:Rep l a n):a<l.length:=by
 cases h with
 | mk _ x ks hx hl hlt hk=>exact (List.getElem?_eq_some_iff.1 hx).1
def Agree (s:RS)(r:R)(q:Nat × RS):Prop:=match r.e with
 | none=>∃ xs,q.2=⟨r.ts,s.deep,s.out++xs,none⟩∧Rep (s.out++xs) q.1 r.n
 | some x=>q.2.bad=some x
theorem rep_nil {l:List RN}{k a n:Int}{t:ByteArray}:Rep (l++[⟨k,a,n,t,[]⟩]) l.length (.mk k a n t []) :=
 .mk l.length ⟨k,a,n,t,[]⟩ [] (by rw [List.getElem?_append_right (Nat.le_refl _),Nat.sub_self]; rfl) rfl (fun b hb=>by cases hb) (fun i b k h=>by cases h)
theorem rep_one {l:List RN}{k a n:Int}{t:ByteArray}{p:Nat}{x:Nd}(h:Rep l p x):Rep (l++[⟨k,a,n,t,[p]⟩]) l.length (.mk k a n t [x]) :=
 .mk l.length ⟨k,a,n,t,[p]⟩ [x] (by rw [List.getElem?_append_right (Nat.le_refl _),Nat.sub_self]; rfl) rfl (fun b hb=>by rw [List.mem_singleton.1 hb]; exact h.lt) fun i b k h1 h2=>by
  cases i with
  | zero=>cases h1; cases h2; exact h.mono _
  | succ i=>cases h1
theorem rep_two {l:List RN}{k a n:Int}{t:ByteArray}{p q:Nat}{x y:Nd}(h:Rep l p x)(g:Rep l q y):Rep (l++[⟨k,a,n,t,[p,q]⟩]) l.length (.mk k a n t [x,y]) :=
 .mk l.length ⟨k,a,n,t,[p,q]⟩ [x,y] (by rw [List.getElem?_append_right (Nat.le_refl _),Nat.sub_self]; rfl) rfl (fun b hb=>by
  rcases List.mem_cons.1 hb with rfl | hb
  · exact h.lt
  · rw [List.mem_singleton.1 hb]; exact g.lt) fun i b k h1 h2=>by
  match i with
  | 0=>cases h1; cases h2; exact h.mono _
  | 1=>cases h1; cases h2; exact g.mono _
  | i+2=>cases h1
theorem isR_none {s:RS}(h:s.bad=none)(k:Int):isR k s=decide ((headT s.ts).kind=k):=by unfold isR; rw [h]; rfl
theorem fail_none {s:RS}(h:s.bad=none)(e:Int):(failR e s).bad=some (e,(headT s.ts).at_):=by unfold failR; rw [h]
theorem add_bad {n:RN}{s:RS}{x:Int × Int}(h:s.bad=some x):(addR n s).2.bad=some x:=h
theorem up_bad {s:RS}{x:Int × Int}(h:s.bad=some x):(upR s).bad=some x:=h
theorem chain_ok {part:List Tk→R}{pr:RS→Nat × RS}{km:Int→Int}{is:RS→Bool}{d:Int}{N:Nat}(hp:∀ ts,okT ts→Inv ts (part ts))(hq:∀ s:RS,okT s.ts→s.bad=none→s.deep=d→s.ts.length≤N→Agree s (part s.ts) (pr s))
  (hi:∀ s:RS,s.bad=none→(is s=true↔km (headT s.ts).kind≠0))(hb:∀ s x,s.bad=some x→is s=false){s:RS}(hs:s.deep=d):∀ (f:Nat)(r:R)(q:Nat × RS),okT r.ts→r.ts.length≤N→Agree s r q→Agree s (chainS part km f r) (chainR pr km is f q)
 | 0,r,q,_,_,h=>by rw [chainS,chainR]; exact h
 | f+1,r,q,hk,hl,h=>by
  rw [chainS,chainR]
  cases he:r.e with
  | some x =>
   have h':=h
   unfold Agree at h'
   rw [he] at h'
   rw [hb _ _ h',if_neg (fun c=>by cases c.1)]; exact h
  | none =>
   have h':=h
   unfold Agree at h'
   rw [he] at h'
   obtain ⟨xs,hx,hr⟩:=h'
   have hb0:q.2.bad=none:=by rw [hx]
   have ht0:q.2.ts=r.ts:=by rw [hx]
   by_cases hc:km (headT r.ts).kind≠0
   · rw [if_pos ⟨rfl,hc⟩,(hi q.2 hb0).2 (by rw [ht0]; exact hc),if_pos rfl]
     have h1:=takeT_ok hk
     have h2:=hp _ h1.1
     have hl2:=Nat.le_trans h1.2 hl
     have g:=hq (takeR q.2) (by show okT (takeT q.2.ts); rw [ht0]; exact h1.1) hb0 (by show q.2.deep=d; rw [hx]; exact hs) (by show (takeT q.2.ts).length≤N; rw [ht0]; exact hl2)
     have e1:(takeR q.2).ts=takeT r.ts:=by show takeT q.2.ts=_; rw [ht0]
     rw [e1] at g
     refine chain_ok hp hq hi hb hs f _ _ h2.1 (Nat.le_trans h2.2 hl2) ?_
     unfold Agree at g ⊢
     show match (part (takeT r.ts)).e with | none=>_ | some x=>_
     cases hpe:(part (takeT r.ts)).e with
     | some x=>rw [hpe] at g; exact add_bad g
     | none =>
       rw [hpe] at g
       obtain ⟨ys,hy,hr2⟩:=g
       have e2:(takeR q.2).out=s.out++xs:=by show q.2.out=_; rw [hx]
       have e3:(takeR q.2).deep=s.deep:=by show q.2.deep=_; rw [hx]
       rw [e2] at hy hr2
       rw [e3] at hy
       refine ⟨xs++(ys++[⟨km (headT q.2.ts).kind,(headT q.2.ts).at_,0,ByteArray.empty,[q.1,(pr (takeR q.2)).1]⟩]),?_,?_⟩
       · show ({ (pr (takeR q.2)).2 with out:=_ }:RS)=_
         rw [hy]
         simp only [List.append_assoc]
       · show Rep _ (pr (takeR q.2)).2.out.length _
         have e4:(pr (takeR q.2)).2.out=s.out++xs++ys:=by rw [hy]
         rw [e4,ht0,←List.append_assoc,←List.append_assoc]
         exact rep_two (hr.mono ys) hr2
   · rw [if_neg (fun c=>hc c.2)]
     have:is q.2=false:=by
       cases hh:is q.2 with
       | false=>rfl
       | true=>exact absurd ((hi q.2 hb0).1 hh) (by rw [ht0]; exact hc)
     rw [this]; exact h
end Go.TP
end
section
namespace Go.TP
open Go.AS
theorem agree_err {s:RS}{r:R}{q:Nat × RS}{x:Int × Int}(h:r.e=some x)(g:q.2.bad=some x):Agree s r q:=by unfold Agree; rw [h]; exact g
theorem agree_ok {s:RS}{r:R}{q:Nat × RS}(h:r.e=none)(g:∃ xs,q.2=⟨r.ts,s.deep,s.out++xs,none⟩∧Rep (s.out++xs) q.1 r.n):Agree s r q:=by unfold Agree; rw [h]; exact g
theorem agree_cases {s:RS}{r:R}{q:Nat × RS}(h:Agree s r q):(∃ x,r.e=some x∧q.2.bad=some x)∨(r.e=none∧∃ xs,q.2=⟨r.ts,s.deep,s.out++xs,none⟩∧Rep (s.out++xs) q.1 r.n):=by
 unfold Agree at h
 cases he:r.e with
 | none=>rw [he] at h; exact .inr ⟨rfl,h⟩
 | some x=>rw [he] at h; exact .inl ⟨x,rfl,h⟩
theorem down_no {s:RS}(h:s.deep=24):downR s=(false,failR 16 s):=if_pos (by omega)
theorem down_yes {s:RS}(h:s.deep<24):downR s=(true,{ s with deep:=s.deep+1,ts:=takeT s.ts }):=if_neg (by omega)
theorem down_ok {s:RS}(hb:s.bad=none)(h1:s.deep≤24){n0:Nd}{f:Int→List Tk→R}{g:RS→Nat × RS}(hk:s.deep<24→Agree s (f (s.deep+1) (takeT s.ts)) (g { s with deep:=s.deep+1,ts:=takeT s.ts })) :
  Agree s (withinS s.deep (headT s.ts) n0 (takeT s.ts) f) (if (downR s).1=true then g (downR s).2 else (0,(downR s).2)):=by
 unfold withinS
 by_cases hd:s.deep=24
 · rw [if_pos hd,down_no hd,if_neg (by simp)]
   exact agree_err rfl (fail_none hb 16)
 · rw [if_neg hd,down_yes (by omega),if_pos rfl]
   exact hk (by omega)
theorem one_ok {s:RS}{r:R}{q:Nat × RS}{ts:List Tk}(h:Agree { s with deep:=s.deep+1,ts:=ts } r q)(k a:Int):Agree s ⟨.mk k a 0 ByteArray.empty [r.n],r.e,r.ts⟩ (addR ⟨k,a,0,ByteArray.empty,[q.1]⟩ (upR q.2)):=by
 rcases agree_cases h with ⟨x,e1,e2⟩ | ⟨e1,xs,e2,e3⟩
 · exact agree_err e1 (add_bad (up_bad e2))
 · refine agree_ok e1 ⟨xs++[⟨k,a,0,ByteArray.empty,[q.1]⟩],?_,?_⟩
   · show ({ upR q.2 with out:=(upR q.2).out++_ }:RS)=_
     rw [e2]
     simp only [upR,List.append_assoc]
     congr 1; omega
   · show Rep _ (upR q.2).out.length _
     have:(upR q.2).out=s.out++xs:=by rw [e2]; rfl
     rw [this,←List.append_assoc]
     exact rep_one e3
theorem two_ok {s s1:RS}{r1 r2:R}{q1 q2:Nat × RS}{xs:List RN}(h1:Rep (s.out++xs) q1.1 r1.n)(hs:s1.out=s.out++xs){dd:Int}(hd:s1.deep=s.deep+dd)(h2:Agree s1 r2 q2)(k a:Int)(up:RS→RS)(hu:∀ t,up t={ t with deep:=t.deep-dd }) :
  Agree s ⟨.mk k a 0 ByteArray.empty [r1.n,r2.n],r2.e,r2.ts⟩ (addR ⟨k,a,0,ByteArray.empty,[q1.1,q2.1]⟩ (up q2.2)):=by
 rcases agree_cases h2 with ⟨x,e1,e2⟩ | ⟨e1,ys,e2,e3⟩
 · exact agree_err e1 (add_bad (by rw [hu]; exact e2))
 · rw [hs,hd] at e2
   rw [hs] at e3
   refine agree_ok e1 ⟨xs++(ys++[⟨k,a,0,ByteArray.empty,[q1.1,q2.1]⟩]),?_,?_⟩
   · show ({ up q2.2 with out:=(up q2.2).out++_ }:RS)=_
     rw [hu,e2]
     simp only [List.append_assoc]
     congr 1; omega
   · show Rep _ (up q2.2).out.length _
     have:(up q2.2).out=s.out++xs++ys:=by rw [hu,e2]
     rw [this,←List.append_assoc,←List.append_assoc]
     exact rep_two (h1.mono ys) e3
theorem want_ok {k:Int}{s:RS}(hb:s.bad=none):(expectS k s.ts).1=none∧wantR k s=(true,{ s with ts:=(expectS k s.ts).2 })∨∃ x,(expectS k s.ts).1=some x∧(wantR k s).1=false∧(wantR k s).2.bad=some x:=by
 unfold expectS wantR
 rw [isR_none hb]
 by_cases h:(headT s.ts).kind=k
 · rw [if_pos h,decide_eq_true h,if_pos rfl]; exact .inl ⟨rfl,rfl⟩
 · rw [if_neg h,decide_eq_false h]
   exact .inr ⟨_,rfl,rfl,fail_none hb 15⟩
theorem close_ok {s:RS}{us:List Tk}{w:Tk}{k:Int}{xs:List RN}{ps:List Nat}{ms:List Nd}(hrep:Rep (s.out++xs++[⟨10,w.at_,k,w.text,ps⟩]) (s.out++xs).length (.mk 10 w.at_ k w.text ms)) :
  Agree s ⟨.mk 10 w.at_ k w.text ms,(expectS 3 us).1,(expectS 3 us).2⟩ (addR ⟨10,w.at_,k,w.text,ps⟩ (upR (wantR 3 ⟨us,s.deep+1,s.out++xs,none⟩).2)):=by
 rcases want_ok (k:=3) (s:=⟨us,s.deep+1,s.out++xs,none⟩) rfl with ⟨e1,e2⟩ | ⟨x,e1,_,e3⟩
 · refine agree_ok e1 ⟨xs++[⟨10,w.at_,k,w.text,ps⟩],?_,?_⟩
   · show ({ upR (wantR 3 _).2 with out:=(upR (wantR 3 _).2).out++_ }:RS)=_
     rw [e2]
     simp only [upR,List.append_assoc]
     congr 1; omega
   · show Rep _ (upR (wantR 3 _).2).out.length _
     rw [e2,←List.append_assoc]; exact hrep
 · exact agree_err e1 (add_bad (up_bad e3))
end Go.TP
end
section
namespace Go.TP
open Go.AS
theorem ff:¬(false=true):=by decide
theorem kmE_iff (s:RS)(h:s.bad=none):isE s=true↔kmE (headT s.ts).kind≠0:=by
 unfold isE kmE
 rw [isR_none h,isR_none h,Bool.or_eq_true,decide_eq_true_eq,decide_eq_true_eq]
 constructor
 · rintro (e | e)
   · rw [if_pos e]; decide
   · rw [if_neg (by omega),if_pos e]; decide
 · intro hn
   by_cases e:(headT s.ts).kind=7
   · exact .inl e
   · rw [if_neg e] at hn
     by_cases e2:(headT s.ts).kind=8
     · exact .inr e2
     · rw [if_neg e2] at hn; exact absurd rfl hn
theorem kmT_iff (s:RS)(h:s.bad=none):isR 9 s=true↔kmT (headT s.ts).kind≠0:=by
 unfold kmT
 rw [isR_none h,decide_eq_true_eq]
 constructor
 · intro e; rw [if_pos e]; decide
 · intro hn
   by_cases e:(headT s.ts).kind=9
   · exact e
   · rw [if_neg e] at hn; exact absurd rfl hn
theorem RP_ok:∀ (f:Nat)(lv:Lv)(s:RS),okT s.ts→s.bad=none→s.deep≤24→5*s.ts.length+offL lv≤f→Agree s (PF f lv s.deep s.ts) (RP f lv s)
 | 0,lv,_,_,_,_,h=>by cases lv <;> simp only [offL] at h <;> omega
 | f+1, .expr,s,hk,hb,hd,hf=>by
  simp only [offL] at hf
  rw [PF,RP]
  have i1:=PF_inv f .term s.deep s.ts hk
  exact chain_ok (N:=s.ts.length) (d:=s.deep) (fun us hu=>PF_inv f .term s.deep us hu) (fun s' h1 h2 h3 h4=>by
   have:=RP_ok f .term s' h1 h2 (by omega) (by simp only [offL]; omega)
   rw [h3] at this; exact this) kmE_iff isE_bad rfl f _ _ i1.1 i1.2 (RP_ok f .term s hk hb hd (by simp only [offL]; omega))
 | f+1, .term,s,hk,hb,hd,hf=>by
  simp only [offL] at hf
  rw [PF,RP]
  have i1:=PF_inv f .part s.deep s.ts hk
  exact chain_ok (N:=s.ts.length) (d:=s.deep) (fun us hu=>PF_inv f .part s.deep us hu) (fun s' h1 h2 h3 h4=>by
   have:=RP_ok f .part s' h1 h2 (by omega) (by simp only [offL]; omega)
   rw [h3] at this; exact this) kmT_iff (fun s x h=>bad_is h 9) rfl f _ _ i1.1 i1.2 (RP_ok f .part s hk hb hd (by simp only [offL]; omega))
 | f+1, .part,s,hk,hb,hd,hf=>by
  simp only [offL] at hf
  rw [PF,RP,isR_none hb]
  simp only
  by_cases h:(headT s.ts).kind=10
  · rw [if_neg (fun c=>c h),decide_eq_true h,if_pos rfl]
    have hl:=take_len hk (by omega)
    exact down_ok (f:=fun d ts=>⟨.mk 5 (headT s.ts).at_ 0 ByteArray.empty [(PF f .part d ts).n],(PF f .part d ts).e,(PF f .part d ts).ts⟩) (g:=fun s'=>addR ⟨5,(headT s.ts).at_,0,ByteArray.empty,[(RP f .part s').1]⟩ (upR (RP f .part s').2)) hb hd fun hd2 =>
      one_ok (RP_ok f .part { s with deep:=s.deep+1,ts:=takeT s.ts } (takeT_ok hk).1 hb (by show s.deep+1≤24; omega) (by show 5*(takeT s.ts).length+offL .part≤f; simp only [offL]; omega)) 5 _
  · rw [if_pos h,decide_eq_false h,if_neg ff]
    exact RP_ok f .ranged s hk hb hd (by simp only [offL]; omega)
 | f+1, .ranged,s,hk,hb,hd,hf=>by
  simp only [offL] at hf
  rw [PF,RP,isR_none hb]
  simp only
  by_cases h:(headT s.ts).kind=5
  · rw [if_pos h,decide_eq_true h,if_pos rfl]
    have hl:=take_len hk (by omega)
    exact down_ok (f:=fun d ts=>⟨.mk 6 (headT s.ts).at_ 0 ByteArray.empty [(PF f .atom d ts).n],(PF f .atom d ts).e,(PF f .atom d ts).ts⟩) (g:=fun s'=>addR ⟨6,(headT s.ts).at_,0,ByteArray.empty,[(RP f .atom s').1]⟩ (upR (RP f .atom s').2)) hb hd fun hd2 =>
      one_ok (RP_ok f .atom { s with deep:=s.deep+1,ts:=takeT s.ts } (takeT_ok hk).1 hb (by show s.deep+1≤24; omega) (by show 5*(takeT s.ts).length+offL .atom≤f; simp only [offL]; omega)) 6 _
  · rw [if_neg h,decide_eq_false h,if_neg ff]
    have ha:=RP_ok f .atom s hk hb hd (by simp only [offL]; omega)
    have ia:=PF_inv f .atom s.deep s.ts hk
    generalize PF f .atom s.deep s.ts=q at ha ia
    generalize RP f .atom s=a at ha
    rcases agree_cases ha with ⟨x,e1,e2⟩ | ⟨e1,xs,e2,e3⟩
    · rw [if_pos (show q.e≠none by rw [e1]; simp),bad_is e2,bad_is e2,if_neg ff,if_neg ff]
      exact agree_err e1 e2
    · rw [if_neg (show ¬q.e≠none by rw [e1]; simp)]
      obtain ⟨a1,a2⟩:=a
      have e2:a2=⟨q.ts,s.deep,s.out++xs,none⟩:=e2
      subst e2
      have e3:Rep (s.out++xs) a1 q.n:=e3
      have hb2:(⟨q.ts,s.deep,s.out++xs,none⟩:RS).bad=none:=rfl
      show Agree s _ (if isR 5 ⟨q.ts,s.deep,s.out++xs,none⟩=true then _ else _)
      rw [isR_none hb2,isR_none hb2]
      have t3:=takeT_ok ia.1
      by_cases h5:(headT q.ts).kind=5
      · rw [if_pos h5,decide_eq_true h5,if_pos rfl]
        have hl:=take_len ia.1 (by omega)
        by_cases hd2:s.deep=24
        · unfold withinS
          rw [if_pos hd2,down_no (s:=⟨q.ts,s.deep,s.out++xs,none⟩) hd2,if_neg ff]
          exact agree_err rfl (fail_none (s:=⟨q.ts,s.deep,s.out++xs,none⟩) rfl 16)
        · unfold withinS
          rw [if_neg hd2,down_yes (s:=⟨q.ts,s.deep,s.out++xs,none⟩) (by show s.deep<24; omega),if_pos rfl]
          have hb3:(⟨takeT q.ts,s.deep+1,s.out++xs,none⟩:RS).bad=none:=rfl
          show Agree s (secondS (PF f .atom (s.deep+1)) 8 (headT q.ts).at_ q.n false (takeT q.ts)) (if (isR 2 ⟨takeT q.ts,s.deep+1,s.out++xs,none⟩||isR 1 ⟨takeT q.ts,s.deep+1,s.out++xs,none⟩)=true then _ else _)
          rw [isR_none hb3,isR_none hb3]
          unfold secondS
          by_cases hn:(headT (takeT q.ts)).kind≠2∧(headT (takeT q.ts)).kind≠1
          · rw [if_pos ⟨rfl,hn.1,hn.2⟩]
            have e:(decide ((headT (takeT q.ts)).kind=2)||decide ((headT (takeT q.ts)).kind=1))=false:=by rw [decide_eq_false hn.1,decide_eq_false hn.2]; rfl
            show Agree s _ (if (decide ((headT (takeT q.ts)).kind=2)||decide ((headT (takeT q.ts)).kind=1))=true then _ else _)
            rw [e,if_neg ff]
            refine agree_ok rfl ⟨xs++[⟨7,(headT q.ts).at_,0,ByteArray.empty,[a1]⟩],?_,?_⟩
            · show (⟨takeT q.ts,s.deep+1-1,(s.out++xs)++_,none⟩:RS)=_
              rw [List.append_assoc]; congr 1; omega
            · show Rep _ (s.out++xs).length _
              rw [←List.append_assoc]; exact rep_one e3
          · rw [if_neg (fun c=>hn ⟨c.2.1,c.2.2⟩)]
            have e:(decide ((headT (takeT q.ts)).kind=2)||decide ((headT (takeT q.ts)).kind=1))=true:=by
              rw [Bool.or_eq_true,decide_eq_true_eq,decide_eq_true_eq]
              by_cases g:(headT (takeT q.ts)).kind=2
              · exact .inl g
              · right
                by_cases g2:(headT (takeT q.ts)).kind=1
                · exact g2
                · exact absurd ⟨g,g2⟩ hn
            show Agree s _ (if (decide ((headT (takeT q.ts)).kind=2)||decide ((headT (takeT q.ts)).kind=1))=true then _ else _)
            rw [e,if_pos rfl]
            exact two_ok (s:=s) (s1:=⟨takeT q.ts,s.deep+1,s.out++xs,none⟩) (r1:=q) (q1:=(a1,⟨q.ts,s.deep,s.out++xs,none⟩)) (xs:=xs) e3 rfl (dd:=1) rfl
              (RP_ok f .atom ⟨takeT q.ts,s.deep+1,s.out++xs,none⟩ t3.1 rfl (by show s.deep+1≤24; omega) (by show 5*(takeT q.ts).length+offL .atom≤f; have:=ia.2; simp only [offL]; omega)) 8 _ upR (fun t=>rfl)
      · rw [if_neg h5,decide_eq_false h5,if_neg ff]
        by_cases h6:(headT q.ts).kind=6
        · rw [if_pos h6,decide_eq_true h6,if_pos rfl]
          have hl:=take_len ia.1 (by omega)
          unfold secondS
          rw [if_neg (fun c=>by cases c.1)]
          exact two_ok (s:=s) (s1:=⟨takeT q.ts,s.deep,s.out++xs,none⟩) (r1:=q) (q1:=(a1,⟨q.ts,s.deep,s.out++xs,none⟩)) (xs:=xs) e3 rfl (dd:=0) (by show s.deep=s.deep+0; omega)
            (RP_ok f .atom ⟨takeT q.ts,s.deep,s.out++xs,none⟩ t3.1 rfl hd (by show 5*(takeT q.ts).length+offL .atom≤f; have:=ia.2; simp only [offL]; omega)) 9 _ (fun t=>t) (fun t=>by show t={ t with deep:=t.deep-0 }; rw [Int.sub_zero])
        · rw [if_neg h6,decide_eq_false h6,if_neg ff]
          exact agree_ok rfl ⟨xs,rfl,e3⟩
 | f+1, .atom,s,hk,hb,hd,hf=>by
  simp only [offL] at hf
  rw [PF,RP,isR_none hb,isR_none hb]
  simp only
  have h1:=takeT_ok hk
  by_cases h2:(headT s.ts).kind=2
  · rw [if_pos h2,decide_eq_true h2,if_pos rfl]
    have hl:=take_len hk (by omega)
    refine down_ok (f:=fun d ts=>if (PF f .expr d ts).e≠none then PF f .expr d ts else ⟨(PF f .expr d ts).n,(expectS 3 (PF f .expr d ts).ts).1,(expectS 3 (PF f .expr d ts).ts).2⟩) (g:=fun s'=>((RP f .expr s').1,upR (wantR 3 (RP f .expr s').2).2)) hb hd fun hd2 => ?_
    have hq:=RP_ok f .expr { s with deep:=s.deep+1,ts:=takeT s.ts } h1.1 hb (by show s.deep+1≤24; omega) (by show 5*(takeT s.ts).length+offL .expr≤f; simp only [offL]; omega)
    have hq:Agree { s with deep:=s.deep+1,ts:=takeT s.ts } (PF f .expr (s.deep+1) (takeT s.ts)) (RP f .expr { s with deep:=s.deep+1,ts:=takeT s.ts }):=hq
    generalize PF f .expr (s.deep+1) (takeT s.ts)=q at hq
    generalize RP f .expr { s with deep:=s.deep+1,ts:=takeT s.ts }=a at hq
    rcases agree_cases hq with ⟨x,e1,e2⟩ | ⟨e1,xs,e2,e3⟩
    · rw [if_pos (show q.e≠none by rw [e1]; simp)]
      exact agree_err e1 (by show (upR (wantR 3 a.2).2).bad=_; rw [bad_want e2]; exact e2)
    · rw [if_neg (show ¬q.e≠none by rw [e1]; simp),e2]
      rcases want_ok (k:=3) (s:=⟨q.ts,s.deep+1,s.out++xs,none⟩) rfl with ⟨g1,g2⟩ | ⟨x,g1,_,g3⟩
      · refine agree_ok g1 ⟨xs,?_,e3⟩
        show upR (wantR 3 ⟨q.ts,s.deep+1,s.out++xs,none⟩).2=_
        rw [g2]
        simp only [upR]
        congr 1; omega
      · exact agree_err g1 (up_bad g3)
  · rw [if_neg h2,decide_eq_false h2,if_neg ff]
    by_cases hw:(headT s.ts).kind=1
    · rw [if_pos hw,decide_eq_true hw,if_pos rfl]
      have hl:=take_len hk (by omega)
      have h3:=takeT_ok h1.1
      by_cases ho:(headT (takeT s.ts)).kind=2
      · rw [if_pos ho,if_neg (fun c=>c ho)]
        have hl2:=take_len h1.1 (by omega)
        unfold callS
        simp only
        by_cases f0:formS (headT s.ts).text=0
        · rw [if_pos f0,if_pos f0]; exact agree_err rfl (fail_none hb 15)
        · rw [if_neg f0,if_neg f0]
          unfold withinS
          by_cases hd2:s.deep=24
          · rw [if_pos hd2,down_no (s:=takeR s) hd2,if_neg ff]
            exact agree_err rfl (fail_none (s:=takeR s) hb 16)
          · rw [if_neg hd2,down_yes (s:=takeR s) (by show s.deep<24; omega),if_pos rfl]
            have eb:({ takeR s with deep:=(takeR s).deep+1,ts:=takeT (takeR s).ts }:RS)=⟨takeT (takeT s.ts),s.deep+1,s.out,none⟩:=by
              show (⟨takeT (takeT s.ts),s.deep+1,s.out,s.bad⟩:RS)=_; rw [hb]
            simp only [eb]
            have hq:=RP_ok f .expr ⟨takeT (takeT s.ts),s.deep+1,s.out,none⟩ h3.1 rfl (by show s.deep+1≤24; omega) (by show 5*(takeT (takeT s.ts)).length+offL .expr≤f; simp only [offL]; omega)
            have hq:Agree ⟨takeT (takeT s.ts),s.deep+1,s.out,none⟩ (PF f .expr (s.deep+1) (takeT (takeT s.ts))) (RP f .expr ⟨takeT (takeT s.ts),s.deep+1,s.out,none⟩):=hq
            by_cases f1:formS (headT s.ts).text=1
            · rw [if_pos f1,if_pos f1,if_neg (by omega)]
              have e0:s.out=s.out++[]:=(List.append_nil _).symm
              show Agree s ⟨.mk 10 _ 0 _ [],_,_⟩ (addR _ (upR (wantR 3 ⟨takeT (takeT s.ts),s.deep+1,s.out,none⟩).2))
              rw [show (⟨takeT (takeT s.ts),s.deep+1,s.out,none⟩:RS)=⟨takeT (takeT s.ts),s.deep+1,s.out++[],none⟩ by rw [List.append_nil]]
              exact close_ok rep_nil
            · rw [if_neg f1,if_neg f1]
              generalize PF f .expr (s.deep+1) (takeT (takeT s.ts))=q at hq
              generalize RP f .expr ⟨takeT (takeT s.ts),s.deep+1,s.out,none⟩=a at hq
              rcases agree_cases hq with ⟨x,e1,e2⟩ | ⟨e1,xs,e2,e3⟩
              · rw [if_pos (show q.e≠none by rw [e1]; simp)]
                refine agree_err e1 ?_
                by_cases f3:formS (headT s.ts).text=3
                · rw [if_pos f3]
                  have c1:(wantR 4 a.2).1=false:=by unfold wantR; rw [bad_is e2]; rfl
                  simp only [c1,bad_want e2]
                  exact add_bad (up_bad e2)
                · rw [if_neg f3]; simp only [bad_want e2]; exact add_bad (up_bad e2)
              · rw [if_neg (show ¬q.e≠none by rw [e1]; simp)]
                obtain ⟨a1,a2⟩:=a
                have e2:a2=⟨q.ts,s.deep+1,s.out++xs,none⟩:=e2
                subst e2
                have e3:Rep (s.out++xs) a1 q.n:=e3
                by_cases f2:formS (headT s.ts).text=2
                · rw [if_pos f2,if_neg (by omega)]
                  exact close_ok (rep_one e3)
                · have f3:formS (headT s.ts).text=3:=by have:=form_vals (headT s.ts).text; omega
                  rw [if_neg f2,if_pos f3]
                  rcases want_ok (k:=4) (s:=⟨q.ts,s.deep+1,s.out++xs,none⟩) rfl with ⟨g1,g2⟩ | ⟨x,g1,g2,g3⟩
                  · have g1:(expectS 4 q.ts).1=none:=g1
                    rw [if_neg (show ¬(expectS 4 q.ts).1≠none by rw [g1]; simp)]
                    simp only [g2]
                    have hb4:(⟨(expectS 4 q.ts).2,s.deep+1,s.out++xs,none⟩:RS).bad=none:=rfl
                    rw [if_pos trivial]
                    show Agree s _ (match (if isR 1 ⟨(expectS 4 q.ts).2,s.deep+1,s.out++xs,none⟩=true then numberS (headT (expectS 4 q.ts).2) else none) with | none=>_ | some k=>_)
                    rw [isR_none hb4]
                    by_cases n1:(headT (expectS 4 q.ts).2).kind=1
                    · rw [decide_eq_true n1,if_pos rfl]
                      cases hn:numberS (headT (expectS 4 q.ts).2) with
                      | none=>exact agree_err rfl (fail_none (s:=⟨(expectS 4 q.ts).2,s.deep+1,s.out++xs,none⟩) rfl 15)
                      | some k=>exact close_ok (rep_one e3)
                    · have hn:numberS (headT (expectS 4 q.ts).2)=none:=if_neg (fun c=>n1 c.1)
                      rw [decide_eq_false n1,if_neg ff,hn]
                      exact agree_err rfl (fail_none (s:=⟨(expectS 4 q.ts).2,s.deep+1,s.out++xs,none⟩) rfl 15)
                  · have g1:(expectS 4 q.ts).1=some x:=g1
                    rw [if_pos (show (expectS 4 q.ts).1≠none by rw [g1]; simp)]
                    refine agree_err g1 ?_
                    simp only [g2,bad_want g3]
                    exact add_bad (up_bad g3)
      · rw [if_neg ho,if_pos ho]
        by_cases hp:isPrefixS (headT s.ts).text=true
        · rw [if_pos hp,if_pos hp]
          refine agree_ok rfl ⟨[⟨1,(headT s.ts).at_,0,(headT s.ts).text,[]⟩],?_,rep_nil⟩
          show (⟨takeT s.ts,s.deep,s.out++_,s.bad⟩:RS)=_
          rw [hb]
        · rw [if_neg hp,if_neg hp]; exact agree_err rfl (fail_none hb 15)
    · rw [if_neg hw,decide_eq_false hw,if_neg ff]
      exact agree_err rfl (fail_none hb 15)
end Go.TP
end
section
namespace Go.TP
open Go.AS
structure RI (n:Nat)(k:Int)(s t:RS):Prop where
 suf:t.ts <:+ s.ts
 ok:okT t.ts
 len:t.out.length+t.ts.length+n≤s.out.length+s.ts.length
 bad:∀ p,t.bad=some p→p.1≠0
 dn:t.bad=none→t.deep=s.deep+k
 d0:s.deep+k≤t.deep
 d1:t.deep≤s.deep+k+1
theorem RI.refl {s:RS}(h:okT s.ts)(hb:∀ p,s.bad=some p→p.1≠0):RI 0 0 s s :=
 ⟨List.suffix_refl _,h,Nat.le_refl _,hb,fun _=>by omega,by omega,by omega⟩
theorem RI.trans {n m:Nat}{k j:Int}{s t u:RS}(h:RI n k s t)(hb:t.bad=none)(g:RI m j t u):RI (n+m) (k+j) s u:=by
 have e:=h.dn hb
 have l1:=h.len
 have l2:=g.len
 have d0:=g.d0
 have d1:=g.d1
 exact ⟨g.suf.trans h.suf,g.ok,by omega,g.bad,fun hu=>by have:=g.dn hu; omega,by omega,by omega⟩
theorem RI.fail {n:Nat}{k:Int}{s t:RS}(h:RI n k s t){e:Int}(he:e≠0):RI n k s (failR e t):=by
 unfold failR
 split
 · exact ⟨h.suf,h.ok,h.len,fun p hp=>by cases hp; exact he,fun hc=>(nomatch hc),h.d0,h.d1⟩
 · exact h
theorem take_suf:∀ ts:List Tk,takeT ts <:+ ts
 | []=>List.suffix_refl _
 | t::r=>by
  show (if t.kind=11 then t::r else r) <:+ _
  split
  · exact List.suffix_refl _
  · exact List.suffix_cons ..
theorem takeT_len1 {ts:List Tk}(h:okT ts)(hk:(headT ts).kind≠11):(takeT ts).length+1=ts.length:=by
 cases ts with
 | nil=>exact h.elim
 | cons t r =>
  have:takeT (t::r)=r:=if_neg hk
  rw [this]; rfl
theorem take_okT {ts:List Tk}(h:okT ts):okT (takeT ts):=by
 cases ts with
 | nil=>exact h.elim
 | cons t r =>
  show okT (if t.kind=11 then t::r else r)
  split
  · exact h
  · rename_i hk
    cases r with
    | nil=>exact absurd h.2 hk
    | cons u r=>exact h.2.2
theorem RI.take {n:Nat}{k:Int}{s t:RS}(h:RI n k s t)(hk:(headT t.ts).kind≠11):RI (n+1) k s (takeR t):=by
 have l:=h.len
 have l2:=takeT_len1 h.ok hk
 exact ⟨(take_suf _).trans h.suf,take_okT h.ok,by show t.out.length+(takeT t.ts).length+(n+1)≤_; omega,h.bad,h.dn,h.d0,h.d1⟩
theorem RI.down {n:Nat}{k:Int}{s t:RS}(h:RI n k s t)(hk:(headT t.ts).kind≠11):RI (n+1) (k+1) s { t with deep:=t.deep+1,ts:=takeT t.ts }:=by
 have l:=h.len
 have l2:=takeT_len1 h.ok hk
 have d0:=h.d0
 have d1:=h.d1
 exact ⟨(take_suf _).trans h.suf,take_okT h.ok,by show t.out.length+(takeT t.ts).length+(n+1)≤_; omega,h.bad,fun hb=>by have:=h.dn hb; show t.deep+1=_; omega,by show _≤t.deep+1; omega,by show t.deep+1≤_; omega⟩
theorem RI.up {n:Nat}{k:Int}{s t:RS}(h:RI n (k+1) s t):RI n k s (upR t):=by
 have d0:=h.d0
 have d1:=h.d1
 exact ⟨h.suf,h.ok,h.len,h.bad,fun hb=>by have:=h.dn hb; show t.deep-1=_; omega,by show _≤t.deep-1; omega,by show t.deep-1≤_; omega⟩
theorem RI.add {n:Nat}{k:Int}{s t:RS}(h:RI (n+1) k s t)(x:RN):RI n k s (addR x t).2:=by
 have l:=h.len
 exact ⟨h.suf,h.ok,by show (t.out++[x]).length+t.ts.length+n≤_; rw [List.length_append]; show t.out.length+1+_+_≤_; omega,h.bad,h.dn,h.d0,h.d1⟩
theorem RI.less {n m:Nat}{k:Int}{s t:RS}(h:RI n k s t)(hm:m≤n):RI m k s t:=by
 have l:=h.len
 exact ⟨h.suf,h.ok,by omega,h.bad,h.dn,h.d0,h.d1⟩
theorem isR_kind {k:Int}{s:RS}(h:isR k s=true):s.bad=none∧(headT s.ts).kind=k:=by
 unfold isR at h
 rw [Bool.and_eq_true,decide_eq_true_iff] at h
 exact ⟨by cases hb:s.bad with | none=>rfl | some _=>rw [hb] at h; exact (nomatch h.1),h.2⟩
theorem RI.want {n:Nat}{k:Int}{s t:RS}(h:RI n k s t){c:Int}(hc:c≠11):RI n k s (wantR c t).2:=by
 unfold wantR
 cases hb:isR c t with
 | true=>exact (h.take (by rw [(isR_kind hb).2]; exact hc)).less (Nat.le_succ n)
 | false=>exact h.fail (by decide)
theorem RI.early {n:Nat}{s t:RS}(h:RI n 1 s t)(hb:t.bad=none){e:Int}(he:e≠0):RI n 0 s (failR e t):=by
 have d:=h.dn hb
 unfold failR
 rw [hb]
 exact ⟨h.suf,h.ok,h.len,fun p hp=>by cases hp; exact he,fun hc=>(nomatch hc),by show s.deep+0≤t.deep; omega,by show t.deep≤_; omega⟩
theorem RI.downR {n:Nat}{k:Int}{s t:RS}(h:RI n k s t)(hk:(headT t.ts).kind≠11)(f:RS→Nat × RS)(hf:∀ u,RI (n+1) (k+1) s u→(t.bad=none→u.bad=none)→RI n k s (f u).2) :
  RI n k s (if (downR t).1 then f (downR t).2 else (0,(downR t).2)).2:=by
 unfold Go.TP.downR
 by_cases hd:24≤t.deep
 · rw [if_pos hd]; exact h.fail (by decide)
 · rw [if_neg hd]; exact hf _ (h.down hk) fun hb=>hb
theorem chain_RI {part:RS→Nat × RS}{km:Int→Int}{is:RS→Bool}(hi:∀ s,is s=true→s.bad=none∧(headT s.ts).kind≠11)
  (hp:∀ s,okT s.ts→(∀ p,s.bad=some p→p.1≠0)→RI 0 0 s (part s).2){s:RS}:∀ (f:Nat)(r:Nat × RS),RI 0 0 s r.2→RI 0 0 s (chainR part km is f r).2
 | 0,r,h=>h
 | f+1,r,h=>by
  rw [chainR]
  cases hb:is r.2 with
  | false=>exact h
  | true =>
   obtain ⟨h1,h2⟩:=hi _ hb
   have g:=h.take h2
   have q:=g.trans h1 (hp _ g.ok g.bad)
   exact chain_RI hi hp f _ (q.add _)
theorem isE_kind (s:RS)(h:isE s=true):s.bad=none∧(headT s.ts).kind≠11:=by
 unfold isE at h
 rw [Bool.or_eq_true] at h
 rcases h with h | h
 · obtain ⟨h1,h2⟩:=isR_kind h; exact ⟨h1,by rw [h2]; decide⟩
 · obtain ⟨h1,h2⟩:=isR_kind h; exact ⟨h1,by rw [h2]; decide⟩
theorem RP_RI:∀ (f:Nat)(lv:Lv)(s:RS),okT s.ts→(∀ p,s.bad=some p→p.1≠0)→RI 0 0 s (RP f lv s).2
 | 0,_,s,h,hb => .refl h hb
 | f+1, .expr,s,h,hb=>by
  rw [RP]
  exact chain_RI isE_kind (fun t h1 h2=>RP_RI f .term t h1 h2) f _ (RP_RI f .term s h hb)
 | f+1, .term,s,h,hb=>by
  rw [RP]
  exact chain_RI (fun t ht=>by obtain ⟨h1,h2⟩:=isR_kind ht; exact ⟨h1,by rw [h2]; decide⟩) (fun t h1 h2=>RP_RI f .part t h1 h2) f _ (RP_RI f .part s h hb)
 | f+1, .part,s,h,hb=>by
  rw [RP]
  cases hi:isR 10 s with
  | false=>exact RP_RI f .ranged s h hb
  | true =>
   obtain ⟨h1,h2⟩:=isR_kind hi
   refine RI.downR (.refl h hb) (by rw [h2]; decide) (fun u=>addR _ (upR (RP f .part u).2)) fun u hu hn => ?_
   exact ((hu.trans (hn h1) (RP_RI f .part u hu.ok hu.bad)).up).add _
 | f+1, .ranged,s,h,hb=>by
  rw [RP]
  cases hi:isR 5 s with
  | true =>
   obtain ⟨h1,h2⟩:=isR_kind hi
   refine RI.downR (.refl h hb) (by rw [h2]; decide) (fun u=>addR _ (upR (RP f .atom u).2)) fun u hu hn => ?_
   exact ((hu.trans (hn h1) (RP_RI f .atom u hu.ok hu.bad)).up).add _
  | false =>
   have ha:=RP_RI f .atom s h hb
   simp only [Bool.false_eq_true,if_false]
   cases h5:isR 5 (RP f .atom s).2 with
   | true =>
    obtain ⟨h1,h2⟩:=isR_kind h5
    simp only [if_true]
    refine RI.downR ha (by rw [h2]; decide) (fun u=>if isR 2 u||isR 1 u then addR _ (upR (RP f .atom u).2) else addR _ (upR u)) fun u hu hn => ?_
    split
    · exact ((hu.trans (hn h1) (RP_RI f .atom u hu.ok hu.bad)).up).add _
    · exact hu.up.add _
   | false =>
    simp only [Bool.false_eq_true,if_false]
    cases h6:isR 6 (RP f .atom s).2 with
    | true =>
     obtain ⟨h1,h2⟩:=isR_kind h6
     simp only [if_true]
     have g:=ha.take (by rw [h2]; decide)
     exact (g.trans h1 (RP_RI f .atom _ g.ok g.bad)).add _
    | false=>exact ha
 | f+1, .atom,s,h,hb=>by
  rw [RP]
  have h0:RI 0 0 s s := .refl h hb
  cases hi:isR 2 s with
  | true =>
   obtain ⟨h1,h2⟩:=isR_kind hi
   refine RI.downR h0 (by rw [h2]; decide) (fun u=>((RP f .expr u).1,upR (wantR 3 (RP f .expr u).2).2)) fun u hu hn => ?_
   exact ((hu.trans (hn h1) (RP_RI f .expr u hu.ok hu.bad)).want (by decide)).up.less (Nat.zero_le _)
  | false =>
   simp only [Bool.false_eq_true,if_false]
   cases h1w:isR 1 s with
   | false=>exact h0.fail (by decide)
   | true =>
    obtain ⟨h1,h2⟩:=isR_kind h1w
    have g:=h0.take (by rw [h2]; decide)
    simp only [if_true]
    split
    · split
      · exact g.add _
      · exact h0.fail (by decide)
    · rename_i hk2
      have hk2:(headT (takeT s.ts)).kind=2:=Decidable.not_not.1 hk2
      split
      · exact h0.fail (by decide)
      · have g0:RI 0 0 s (takeR s):=g.less (Nat.zero_le _)
        have key:∀ (u:RS),RI 1 1 s u→u.bad=none→∀ q:List Nat × RS,q=(if formS (headT s.ts).text=1 then ([],u) else ([(RP f .expr u).1],(RP f .expr u).2))→RI 1 1 s q.2:=by
          intro u hu hn q hq
          subst hq
          split
          · exact hu
          · exact hu.trans hn (RP_RI f .expr u hu.ok hu.bad)
        unfold Go.TP.downR
        by_cases hd:24≤(takeR s).deep
        · rw [if_pos hd]; exact g0.fail (by decide)
        · rw [if_neg hd]
          have gd:RI 1 1 s { takeR s with deep:=(takeR s).deep+1,ts:=takeT (takeR s).ts }:=g0.down (by show (headT (takeT s.ts)).kind≠11; rw [hk2]; decide)
          have gq:=key _ gd h1 _ rfl
          simp only [if_true]
          generalize hq:(if formS (headT s.ts).text=1 then (([]:List Nat),({ takeR s with deep:=(takeR s).deep+1,ts:=takeT (takeR s).ts }:RS)) else ([(RP f .expr { takeR s with deep:=(takeR s).deep+1,ts:=takeT (takeR s).ts }).1],(RP f .expr { takeR s with deep:=(takeR s).deep+1,ts:=takeT (takeR s).ts }).2))=q at gq ⊢
          split
          · split
            · rename_i hw
              have hw4:(wantR 4 q.2).2.bad=none∧RI 1 1 s (wantR 4 q.2).2:=by
                refine ⟨?_,gq.want (by decide)⟩
                unfold wantR at hw ⊢
                cases hb4:isR 4 q.2 with
                | true=>exact (isR_kind hb4).1
                | false=>rw [hb4] at hw; exact nomatch hw
              split
              · exact (hw4.2.less (Nat.zero_le _)).early hw4.1 (by decide)
              · rename_i m hm
                have hk1:isR 1 (wantR 4 q.2).2=true:=by
                  cases hb1:isR 1 (wantR 4 q.2).2 with
                  | true=>rfl
                  | false=>rw [hb1] at hm; exact nomatch hm
                have g5:=(hw4.2.take (by rw [(isR_kind hk1).2]; decide)).less (Nat.le_succ 1)
                exact ((g5.want (by decide)).up).add _
            · exact (((gq.want (by decide)).want (by decide)).up).add _
          · exact ((gq.want (by decide)).up).add _
end Go.TP
end
section
namespace Go.Proofs.YtpofhijgccocpaaGreatDoor
open Go.AS Go.TP
noncomputable section
def xE (n:RN):AV:=rgV n.kind n.at_ n.n n.text (n.kids.map fun j:Nat=>i0 (j:Int))
def badE (s:RS):Int:=match s.bad with | none=>0 | some p=>p.1
def badP (s:RS):Int:=match s.bad with | none=>0 | some p=>p.2
def xS (c:Nat)(all:List Tk)(s:RS):Hp:=xHp c (all.map encT) ((all.length:Int)-s.ts.length) s.deep (s.out.map xE) (badE s) (badP s)
structure XInv (all:List Tk)(s:RS):Prop where
 suf:s.ts <:+ all
 ok:okT s.ts
 bad:∀ p,s.bad=some p→p.1≠0
 d0:0≤s.deep
 d1:s.deep≤26
 la:all.length≤1000000
 lo:s.out.length+s.ts.length≤1000000
theorem gY_ok {X:WX}(hX:X.Sound)(hp:X.px=X0){f:Nat}(hs:(Tryz.prog.funcs[f]?).isSome=true)(hb:(fn f).body=some (code f))(hn:((fn f).name == "runtime.NumGoroutine")=false){os:Orc}{ys:List AV}{σ:Hp}{r:Back}(h:gY X f os ys σ r):FOk Tryz.prog gl0 f (xArg::ys) σ r:=by
 have hP:X.px.P=Tryz.prog:=by rw [hp]; rfl
 have hg:X.px.gl=gl0:=by rw [hp]; rfl
 have:=fn_ok (X:=X) (d:=14) hX (f:=f) (fn:=fn f) (code:=code f) (by show X.px.P.funcs[f]?=_; rw [hP]; exact fnOk f hs) hb hn h
 rw [←hg,←hP]; exact this
theorem XI_ok:XI.Sound:=(XB_ok.ask _).askAt _ _
theorem XFl_ok:XFl.Sound:=(XB_ok.ask _).askAt _ _
theorem XAd_ok:XAd.Sound:=(XB_ok.ask _).askAt _ _
theorem shpI (k a:Int)(x:ByteArray):isShp (Cx.B (cxV XI 14 fXIs)) shN 124 (.agg [i0 k,i0 a,s0 x])=true:=by kernel_rfl
theorem shpFl (k a:Int)(x:ByteArray):isShp (Cx.B (cxV XFl 14 fXFail)) shN 124 (.agg [i0 k,i0 a,s0 x])=true:=by kernel_rfl
theorem x_tok {all:List Tk}{s:RS}(h:XInv all s)(z:AV):(all.map encT).getD ((all.length:Int)-s.ts.length).toNat z=encT (headT s.ts)∧(0:Int)≤(all.length:Int)-s.ts.length∧(all.length:Int)-s.ts.length<((all.map encT).length:Int):=by
 obtain ⟨p,hp⟩:=h.suf
 have hne:=okT_ne h.ok
 cases hts:s.ts with
 | nil=>exact absurd hts hne
 | cons t r =>
  rw [hts] at hp
  subst hp
  have e:(((p++t::r).length:Int)-((t::r).length:Nat))=(p.length:Int):=by
   rw [List.length_append]; push_cast; omega
  rw [e]
  refine ⟨?_,by omega,?_⟩
  · rw [Int.toNat_natCast,List.map_append,List.getD_eq_getElem?_getD,List.getElem?_append_right (by rw [List.length_map]; exact Nat.le_refl _),List.length_map,Nat.sub_self]
    rfl
  · rw [List.length_map,List.length_append]; simp only [List.length_cons]; omega
attribute [local irreducible] runF in
set_option maxRecDepth 100000 in
theorem xIs_ok {all:List Tk}{s:RS}(h:XInv all s)(c:Int):FOk Tryz.prog gl0 fXIs [xArg,i0 c] (xS 0 all s) ⟨b0 (isR c s),xS 0 all s,[]⟩:=by
 obtain ⟨t1,t2,t3⟩:=x_tok h (AV.lit (Value.tuple ⟨[]⟩))
 cases hb:s.bad with
 | none =>
  have e1:badE s=0:=by unfold badE; rw [hb]
  have e2:isR c s=((headT s.ts).kind==c):=by
   unfold isR; rw [hb]; simp only [Option.isNone_none,Bool.true_and]
   by_cases g:(headT s.ts).kind=c
   · rw [decide_eq_true g,g]; simp
   · rw [decide_eq_false g]; simp [g]
  have g:=xIs_vc (all.map encT) ((all.length:Int)-s.ts.length) s.deep (s.out.map xE) (badP s) c (isR c s)
  have q:xIs _ _ _ _ _ _ _ _:=g.mpr (by
   refine ⟨rfl,rfl,rfl,rfl,rfl,rfl,rfl,rfl,rfl,?_,rfl,rfl,rfl,rfl,?_, .rfl⟩
   · rw [t1,decide_eq_true ⟨t2,t3⟩]
     show (true&&(true&&(isShp _ shN 124 (.agg [i0 _,i0 _,s0 _])&&(true||false))))=true
     rw [shpI]; rfl
   · rw [t1,e2]; exact .refl _)
  unfold xS
  rw [e1]
  exact gY_ok XI_ok rfl (by kernel_rfl) (by kernel_rfl) (by kernel_rfl) q
 | some p =>
  have e2:isR c s=false:=by unfold isR; rw [hb]; rfl
  have e3:badE s≠0:=by unfold badE; rw [hb]; exact h.bad p hb
  rw [e2]
  have q:xIsB _ _ _ _ _ _ _ _:=(xIsB_vc (all.map encT) ((all.length:Int)-s.ts.length) s.deep (s.out.map xE) (badE s) (badP s) c).mpr
   ⟨beq_false_of_ne e3,rfl,rfl,rfl,rfl,rfl,rfl,rfl,rfl,rfl,rfl,rfl,rfl, .refl _, .rfl⟩
  exact gY_ok XI_ok rfl (by kernel_rfl) (by kernel_rfl) (by kernel_rfl) q
attribute [local irreducible] runF in
set_option maxRecDepth 100000 in
theorem xFail_ok {all:List Tk}{s:RS}(h:XInv all s)(e:Int):FOk Tryz.prog gl0 fXFail [xArg,i0 e] (xS 0 all s) ⟨i0 0,xS 0 all (failR e s),[1048578]⟩:=by
 obtain ⟨t1,t2,t3⟩:=x_tok h (AV.lit (Value.tuple ⟨[]⟩))
 cases hb:s.bad with
 | none =>
  have e1:badE s=0:=by unfold badE; rw [hb]
  have ef:failR e s={ s with bad:=some (e,(headT s.ts).at_) }:=by unfold failR; rw [hb]
  have q:xFail _ _ _ _ _ _ _ _:=(xFail_vc (all.map encT) ((all.length:Int)-s.ts.length) s.deep (s.out.map xE) (badP s) e (headT s.ts).at_).mpr (by
   refine ⟨rfl,?_, .refl _,?_⟩
   · rw [t1,decide_eq_true ⟨t2,t3⟩]
     show (true&&(true&&(isShp _ shN 124 (.agg [i0 _,i0 _,s0 _])&&(true||false))))=true
     rw [shpFl]; rfl
   · rw [t1]; exact .rfl)
  rw [ef]
  unfold xS
  rw [e1]
  exact gY_ok XFl_ok rfl (by kernel_rfl) (by kernel_rfl) (by kernel_rfl) q
 | some p =>
  have e3:badE s≠0:=by unfold badE; rw [hb]; exact h.bad p hb
  have ef:failR e s=s:=by unfold failR; rw [hb]
  have q:xFailB _ _ _ _ _ _ _ _:=(xFailB_vc (all.map encT) ((all.length:Int)-s.ts.length) s.deep (s.out.map xE) (badE s) (badP s) e).mpr ⟨beq_false_of_ne e3, .refl _, .rfl⟩
  have g:=gY_ok XFl_ok rfl (by kernel_rfl) (by kernel_rfl) (by kernel_rfl) q
  rw [ef]
  exact g.more (fun k hk=>(nomatch hk))
end
end Go.Proofs.YtpofhijgccocpaaGreatDoor
end
section
namespace Go.Proofs.YtpofhijgccocpaaGreatDoor
open Go.AS Go.TP
noncomputable section
theorem con1 {f:Nat}{ys:List AV}{σ:Hp}{r:Back}(h:FOk Tryz.prog gl0 f (xArg::ys) σ r):ConOk Tryz.prog gl0 f (Sp.con [spX ys σ r]) :=
 Sp.ok fun s hs i _=>by rw [List.mem_singleton] at hs; subst hs; exact h
theorem fail_ts (e:Int)(s:RS):(failR e s).ts=s.ts∧(failR e s).deep=s.deep∧(failR e s).out=s.out:=by
 unfold failR; split <;> exact ⟨rfl,rfl,rfl⟩
theorem xS_fail (c:Nat)(all:List Tk)(e:Int)(s:RS):xS c all (failR e s)=xHp c (all.map encT) ((all.length:Int)-s.ts.length) s.deep (s.out.map xE) (badE (failR e s)) (badP (failR e s)):=by
 obtain ⟨h1,h2,h3⟩:=fail_ts e s
 unfold xS; rw [h1,h2,h3]
theorem x_next {all:List Tk}{s:RS}(h:XInv all s)(hk:(headT s.ts).kind≠11):(all.length:Int)-(takeT s.ts).length=(all.length:Int)-s.ts.length+1:=by
 have hne:=okT_ne h.ok
 cases hts:s.ts with
 | nil=>exact absurd hts hne
 | cons t r =>
  rw [hts] at hk
  have:takeT (t::r)=r:=if_neg hk
  rw [this]
  simp only [List.length_cons]; omega
theorem x_in {all:List Tk}{s:RS}(h:XInv all s):inR .i64 ((all.length:Int)-s.ts.length+1)=true:=by
 obtain ⟨_,t2,t3⟩:=x_tok h (.lit undef)
 rw [List.length_map] at t3
 have:=h.la
 exact inR_i64 (by omega) (by omega)
attribute [local irreducible] runF in
set_option maxRecDepth 100000 in
theorem xDown_ok {all:List Tk}{s:RS}(h:XInv all s)(hk:(headT s.ts).kind≠11):FOk Tryz.prog gl0 fXDown [xArg] (xS 0 all s) ⟨b0 (downR s).1,xS 0 all (downR s).2,[1048578]⟩:=by
 by_cases hd:24≤s.deep
 · have e:downR s=(false,failR 16 s):=if_pos hd
   have hc:=xFail_ok h 16
   rw [xS_fail] at hc
   rw [e]
   show FOk _ _ _ _ _ ⟨b0 false,xS 0 all (failR 16 s),_⟩
   rw [xS_fail]
   have q:xDownN _ _ _ _ _ _ _ _ _:=(xDownN_vc (all.map encT) ((all.length:Int)-s.ts.length) s.deep (s.out.map xE) (badE s) (badP s) (badE (failR 16 s)) (badP (failR 16 s))).mpr
     ⟨decide_eq_true hd,(),⟨trivial, .refl _,rfl⟩, .refl _, .rfl⟩
   exact gY_ok ((XB_ok.add (con1 hc)).ask _) rfl (by kernel_rfl) (by kernel_rfl) (by kernel_rfl) q
 · have e:downR s=(true,{ s with deep:=s.deep+1,ts:=takeT s.ts }):=if_neg hd
   rw [e]
   have h0:=h.d0
   have q:xDownY _ _ _ _ _ _ _:=(xDownY_vc (all.map encT) ((all.length:Int)-s.ts.length) s.deep (s.out.map xE) (badE s) (badP s)).mpr
     ⟨decide_eq_false hd,inR_i64 (by omega) (by omega),x_in h, .refl _, .rfl⟩
   have g:=gY_ok (XB_ok.ask _) rfl (by kernel_rfl) (by kernel_rfl) (by kernel_rfl) q
   show FOk _ _ _ _ _ ⟨b0 true,xHp 0 _ ((all.length:Int)-(takeT s.ts).length) (s.deep+1) _ _ _,_⟩
   rw [x_next h hk]
   exact g
attribute [local irreducible] runF in
set_option maxRecDepth 100000 in
theorem xWant_ok {all:List Tk}{s:RS}(h:XInv all s)(c:Int)(hc:c≠11):FOk Tryz.prog gl0 fXWant [xArg,i0 c] (xS 0 all s) ⟨b0 (wantR c s).1,xS 0 all (wantR c s).2,[1048578]⟩:=by
 have hf:=xFail_ok h 15
 rw [xS_fail] at hf
 have hi:=xIs_ok h c
 have hX:=(XB_ok.add (con1 hf)).add (con1 hi)
 cases hb:isR c s with
 | true =>
  have e:wantR c s=(true,takeR s):=by unfold wantR; rw [hb]; rfl
  rw [e]
  have hk:(headT s.ts).kind≠11:=by
   unfold isR at hb
   rw [Bool.and_eq_true,decide_eq_true_iff] at hb
   rw [hb.2]; exact hc
  rw [hb] at hX
  have q:xWantY _ _ _ _ _ _ _ _ _ _:=(xWantY_vc (all.map encT) ((all.length:Int)-s.ts.length) s.deep (s.out.map xE) (badE s) (badP s) (badE (failR 15 s)) (badP (failR 15 s)) c).mpr
   ⟨(),⟨trivial, .refl _,rfl⟩,rfl,x_in h, .refl _, .rfl⟩
  have g:=gY_ok (hX.ask _) rfl (by kernel_rfl) (by kernel_rfl) (by kernel_rfl) q
  show FOk _ _ _ _ _ ⟨b0 true,xHp 0 _ ((all.length:Int)-(takeT s.ts).length) s.deep _ _ _,_⟩
  rw [x_next h hk]
  exact g
 | false =>
  have e:wantR c s=(false,failR 15 s):=by unfold wantR; rw [hb]; rfl
  rw [e]
  rw [hb] at hX
  show FOk _ _ _ _ _ ⟨b0 false,xS 0 all (failR 15 s),_⟩
  rw [xS_fail]
  have q:xWantN _ _ _ _ _ _ _ _ _ _:=(xWantN_vc (all.map encT) ((all.length:Int)-s.ts.length) s.deep (s.out.map xE) (badE s) (badP s) (badE (failR 15 s)) (badP (failR 15 s)) c).mpr
   ⟨(),⟨trivial, .refl _,rfl⟩,rfl,(),⟨trivial, .refl _,rfl⟩, .refl _, .rfl⟩
  exact gY_ok (hX.ask _) rfl (by kernel_rfl) (by kernel_rfl) (by kernel_rfl) q
attribute [local irreducible] runF in
set_option maxRecDepth 100000 in
theorem xAdd_ok {all:List Tk}{s:RS}(h:XInv all s)(n:RN):FOk Tryz.prog gl0 fXAdd [xArg,xE n] (xS 0 all s) ⟨i0 (addR n s).1,xS 1 all (addR n s).2,[1048577,1048578]⟩:=by
 have hl:=h.lo
 have hm:(s.out.map xE).length=s.out.length:=List.length_map ..
 have q:xAdd _ _ _ _ _ _ _ _ _ _ _ _:=(xAdd_vc (all.map encT) ((all.length:Int)-s.ts.length) s.deep (s.out.map xE) (badE s) (badP s) n.kind n.at_ n.n n.text (n.kids.map fun j:Nat=>i0 (j:Int))).mpr (by
  try dsimp only
  rw [List.drop_zero,List.take_length]
  have el:∀ z:AV,(s.out.map xE++[z]).length=s.out.length+1:=fun z=>by rw [List.length_append,hm]; rfl
  have ei:((s.out.length+1:Nat):Int)-1=(s.out.length:Int):=by push_cast; omega
  rw [el,ei,hm]
  refine ⟨?_,inR_i64 (by omega) (by omega), .refl _,?_⟩
  · rw [Nat.zero_add,decide_eq_true (by constructor <;> omega)]
    have:Nat.ble s.out.length s.out.length=true:=Nat.ble_eq_true_of_le (Nat.le_refl _)
    rw [this]; rfl
  · rw [←hm]; exact .rfl)
 have g:=gY_ok XAd_ok rfl (by kernel_rfl) (by kernel_rfl) (by kernel_rfl) q
 show FOk _ _ _ _ _ ⟨i0 (s.out.length:Int),xHp 1 _ _ _ ((s.out++[n]).map xE) _ _,_⟩
 rw [List.map_append,←hm]
 exact g
end
end Go.Proofs.YtpofhijgccocpaaGreatDoor
end
section
namespace Go.Proofs.YtpofhijgccocpaaGreatDoor
open Go.AS Go.TP
noncomputable section
def gZ (X:WX)(f:Nat)(os:Orc)(ys:List AV)(σ:Hp)(r:Back):Prop:=runF X 14 f (fn f) (code f) os 0 [1048577] (xArg::ys) σ r
abbrev spI (c:Int)(b:Bool)(σ:Hp):Sp:=spX [i0 c] σ ⟨b0 b,σ,[]⟩
abbrev spD (b:Bool)(σ τ:Hp):Sp:=spX [] σ ⟨b0 b,τ,[1048578]⟩
abbrev spV (v:Int)(σ τ:Hp):Sp:=spX [] σ ⟨i0 v,τ,[1048577,1048578]⟩
abbrev spA (n:AV)(v:Int)(σ τ:Hp):Sp:=spX [n] σ ⟨i0 v,τ,[1048577,1048578]⟩
def XQn (X:WX)(f:Nat)(ds:List Nat):WX:=(X.ask askX).askAt f ds
def gPaR (os:Orc)(ts:List AV)(k d:Int)(xs:List AV)(k' d':Int)(xs':List AV)(bad' pl' v:Int):Prop :=
 gZ (XQn ((XB.add fXIs (Sp.con [spI 10 false (xHp 0 ts k d xs 0 0)])).add fXRang (Sp.con [spV v (xHp 0 ts k d xs 0 0) (xHp 1 ts k' d' xs' bad' pl')])) fXPart [17,19]) fXPart os [] (xHp 0 ts k d xs 0 0) ⟨i0 v,xHp 1 ts k' d' xs' bad' pl',[1048577,1048578]⟩
def gPaN (os:Orc)(ts:List AV)(k d:Int)(xs:List AV)(bad' pl':Int):Prop :=
 runF (XQn ((XB.add fXIs (Sp.con [spI 10 true (xHp 0 ts k d xs 0 0)])).add fXDown (Sp.con [spD false (xHp 0 ts k d xs 0 0) (xHp 0 ts k d xs bad' pl')])) fXPart [17,19]) 14 fXPart (fn fXPart) (code fXPart) os 0 [] [xArg] (xHp 0 ts k d xs 0 0) ⟨i0 0,xHp 0 ts k d xs bad' pl',[1048577,1048578]⟩
def gPaY (os:Orc)(ts:List AV)(k d:Int)(xs:List AV)(k1:Int)(k2 d2:Int)(xs2:List AV)(bad2 pl2 v a:Int):Prop :=
 gZ (XQn ((((XB.add fXIs (Sp.con [spI 10 true (xHp 0 ts k d xs 0 0)])).add fXDown (Sp.con [spD true (xHp 0 ts k d xs 0 0) (xHp 0 ts k1 (d+1) xs 0 0)])).add fXPart (Sp.con [spV v (xHp 0 ts k1 (d+1) xs 0 0) (xHp 1 ts k2 d2 xs2 bad2 pl2)])).add fXAdd (Sp.con [spA (rgV 5 a 0 ByteArray.empty [i0 v]) xs2.length (xHp 0 ts k2 (d2-1) xs2 bad2 pl2) (xHp 1 ts k2 (d2-1) (xs2++[rgV 5 a 0 ByteArray.empty [i0 v]]) bad2 pl2)])) fXPart [17,19])
  fXPart os [] (xHp 0 ts k d xs 0 0) ⟨i0 xs2.length,xHp 1 ts k2 (d2-1) (xs2++[rgV 5 a 0 ByteArray.empty [i0 v]]) bad2 pl2,[1048577,1048578]⟩
end
end Go.Proofs.YtpofhijgccocpaaGreatDoor
end
section
namespace Go.Proofs.YtpofhijgccocpaaGreatDoor
open Go.AS Go.TP
noncomputable section
def X0P:PX:={ X0 with own:=fun f d=>Nat.beq f fXParse&&Nat.beq d 23 }
theorem sound0P:X0P.Sound:=by
 refine ⟨sound0.1,sound0.2,fun f g h => ?_⟩
 have h:bsel (Nat.beq f fIndexB3) (some (pureX Tryz.prog Extern.BytealgIndexByte.indexByte)) none=some g:=h
 cases hb:Nat.beq f fIndexB3
 · rw [hb,bsel_false] at h; cases h
 · rw [hb,bsel_true] at h; cases h
   obtain rfl:=Nat.eq_of_beq_eq_true hb
   exact pureX_ok (C:=cx X0P fIndexB3 fun _ _ _ _ _=>none) isExtB
def XBP:WX:=WX.base X0P
theorem XBP_ok:XBP.Sound := .base sound0P
def xP0 (ts:List AV):Hp:=hpL [(1048577,⟨[0,0], .row true 6 [.agg [.lst false 3 ts,i0 0,i0 0, .agg [.lit (.slice none 0 0)],i0 0,i0 0]]⟩)]
def xP1 (ts:List AV)(k d:Int)(xs:List AV)(bad pl:Int):Hp:=hpL [(1048577,⟨[0,0], .row false 6 [.agg [.lst false 3 ts,i0 k,i0 d, .agg [.slc 1048578 [0,1] 0 xs.length],i0 bad,i0 pl]]⟩),(1048578,⟨[0,1], .row true 5 xs⟩)]
def xHpN (ts:List AV)(k d:Int)(xs:List AV)(bad pl:Int):Hp:=hpL [(1048577,⟨[0,0], .row true 5 xs⟩),(1048578,⟨[1,0], .row false 6 [xRow ts k d (.agg [xSl 0 xs.length]) bad pl]⟩)]
abbrev spPE (ts:List AV)(v k d:Int)(xs:List AV)(bad pl:Int):Sp:=⟨Unit,fun _=>True,fun _=>[.ptr 1048577 [0,0] 0 0],fun _=>xP0 ts,fun _=>⟨i0 v,xP1 ts k d xs bad pl,[1048577,1048578]⟩⟩
abbrev spLx (s:ByteArray)(r:AV):Sp := .pure Unit (fun _=>True) (fun _=>[s0 s]) (fun _=>r)
def gXP (X:WX)(os:Orc)(fz:Nat)(s:ByteArray)(r:AV):Prop:=runF (X.ask (fXCut::askX)) 14 fXParse (fn fXParse) (code fXParse) os fz [] [s0 s] .nil ⟨r, .nil,[]⟩
abbrev noTree:AV := .agg [.lst false 5 []]
def gXPL (os:Orc)(s:ByteArray)(e i:Int):Prop:=gXP (XBP.add fXLex (Sp.con [spLx s (.tup [.lst false 3 [],i0 e,i0 i])])) os 0 s (.tup [noTree,i0 e,i0 i])
def gXPB (os:Orc)(s:ByteArray)(ts:List AV)(v k d:Int)(xs:List AV)(bad pl:Int):Prop :=
 gXP ((XBP.add fXLex (Sp.con [spLx s (.tup [.lst false 3 ts,i0 0,i0 0])])).add fXExpr (Sp.con [spPE ts v k d xs bad pl])) os 0 s (.tup [noTree,i0 bad,i0 pl])
def gXPN (os:Orc)(s:ByteArray)(ts:List AV)(v k d:Int)(xs:List AV)(bad pl:Int):Prop :=
 gXP ((((XBP.add fXLex (Sp.con [spLx s (.tup [.lst false 3 ts,i0 0,i0 0])])).add fXExpr (Sp.con [spPE ts v k d xs 0 0])).add fXIs (Sp.con [spI 11 false (xHpN ts k d xs 0 0)])).add fXFail (Sp.con [spX [i0 15] (xHpN ts k d xs 0 0) ⟨i0 0,xHpN ts k d xs bad pl,[1048578]⟩])) os 0 s (.tup [noTree,i0 bad,i0 pl])
def gXPY (os:Orc)(s:ByteArray)(ts:List AV)(v k d:Int)(xs:List AV):Prop :=
 gXP (((XBP.add fXLex (Sp.con [spLx s (.tup [.lst false 3 ts,i0 0,i0 0])])).add fXExpr (Sp.con [spPE ts v k d xs 0 0])).add fXIs (Sp.con [spI 11 true (xHpN ts k d xs 0 0)])) os 1 s (.tup [.agg [.lst false 5 (xs.take (v+1).toNat)],i0 0,i0 0])
end
end Go.Proofs.YtpofhijgccocpaaGreatDoor
end
section
namespace Go.Proofs.YtpofhijgccocpaaGreatDoor
open Go.AS Go.TP
noncomputable section
abbrev fDeep:Nat:=7
def X0E:PX:={ X0 with gl:=glE }
def XBE:WX:=WX.base X0E
abbrev spQ (xs:List AV)(r:AV):Sp:=⟨Unit,fun _=>True,fun _=>xs,fun _ => .nil,fun _=>⟨r, .nil,[]⟩⟩
abbrev fTop:Nat:=14
def gTop (os:Orc)(ns:List AV):Prop:=gF XB [fTop] fTop os [treeV ns] (i0 ((ns.length:Int)-1))
abbrev dpA (xs:List AV)(c:Bool)(s e:ByteArray)(i:Int):List AV:=[.lst false 1 xs,b0 c,s0 s,s0 e,i0 i]
abbrev dpO (c:Bool)(s e:ByteArray):Ex × Back:=(.exit 0,⟨.tup [b0 c,s0 s,s0 e], .nil,[]⟩)
abbrev lpD (P:ByteArray→ByteArray→Prop)(xs:List AV)(c:Bool)(i:Int)(r:Ex × Back):Lp:=⟨[0,2,7,8,9],[],fun _=>[2,7,8],Spl.con [⟨ByteArray × ByteArray,fun q=>P q.1 q.2,fun q=>dpA xs c q.1 q.2 i,fun _ => .nil,fun _=>r⟩]⟩
def XDp:WX:=((XB.add fPick (Sp.con [spPick])).ask [fDeep]).askAt fDeep [27,28]
def rD (os:Orc)(P:ByteArray→ByteArray→Prop)(xs:List AV)(c:Bool)(s e:ByteArray)(i:Int)(s' e':ByteArray):Prop:=runL XDp 10 fDeep (fn fDeep).ntmps (loopAt (code fDeep) 0) (lpD P xs c (i+1) (dpO c s' e')) (lpD P xs c (i+1) (dpO c s' e')) os 0 [] (dpA xs c s e i) .nil (dpO c s' e')
def rDE (os:Orc)(P:ByteArray→ByteArray→Prop)(xs:List AV)(c:Bool)(s e:ByteArray)(i:Int):Prop:=rD os P xs c s e i s e
def rDF (os:Orc)(P:ByteArray→ByteArray→Prop)(xs:List AV)(c:Bool)(s e:ByteArray)(i:Int):Prop:=rD os P xs c s e i s e
def rDA (os:Orc)(P:ByteArray→ByteArray→Prop)(xs:List AV)(c:Bool)(s e:ByteArray)(i:Int)(s' e':ByteArray):Prop:=rD os P xs c s e i s' e'
def XLD (xs:List AV)(c:Bool)(s e:ByteArray)(t:ByteArray)(q r:AV)(kd:AV)(k:Int):WX :=
 (((((XBE.addLp fDeep 0 (Lp1 [0,2,7,8,9] [] (fun _=>[2,7,8]) True (dpA xs c ByteArray.empty ByteArray.empty 0) .nil (dpO c s e))).add fParse (Sp.con [spQ [s0 t] q])).add fXParse (Sp.con [spQ [s0 t] r])).add fKnown18 (Sp.con [spQ [] (b0 true)])).add fKind (Sp.con [spQ [kd] (i0 k)]))
def gDp (X:WX)(os:Orc)(xs:List AV)(nm:Int)(c:Bool):Prop:=lawW (X.ask [fDeep]) 12 fDeep (fn fDeep) (code fDeep) os [.lst false 1 xs,i0 nm,b0 c]
def gDpO (os:Orc)(xs:List AV)(nm:Int)(c:Bool)(s e t:ByteArray)(k a m:Int)(w:ByteArray)(vs ns:List AV):Prop :=
 gDp (((XLD xs c s e t (.tup [nV k a m w vs, .lit .nilIface]) (.tup [treeV ns,i0 0,i0 0]) (.lit .nilIface) 0).add fSameN (Sp.con [spQ [nV k a m w vs,treeV ns,i0 ((ns.length:Int)-1)] (b0 true)])).add fTop (Sp.con [spQ [treeV ns] (i0 ((ns.length:Int)-1))])) os xs nm c
def gDpB (os:Orc)(xs:List AV)(nm:Int)(c:Bool)(s e t:ByteArray)(k a:Int):Prop :=
 gDp ((XLD xs c s e t (.tup [nV 0 0 0 ByteArray.empty [],encErr k a]) (.tup [noTree,i0 k,i0 a]) (encErr k a) k).add fAtE (Sp.con [spQ [encErr k a] (i0 a)])) os xs nm c
def gDpO1 (os:Orc)(xs:List AV)(nm:Int)(s e t:ByteArray)(k a m:Int)(w:ByteArray)(vs ns:List AV):Prop:=gDpO os xs nm true s e t k a m w vs ns
def gDpO0 (os:Orc)(xs:List AV)(nm:Int)(s e t:ByteArray)(k a m:Int)(w:ByteArray)(vs ns:List AV):Prop:=gDpO os xs nm false s e t k a m w vs ns
def gDpB1 (os:Orc)(xs:List AV)(nm:Int)(s e t:ByteArray)(k a:Int):Prop:=gDpB os xs nm true s e t k a
def gDpB0 (os:Orc)(xs:List AV)(nm:Int)(s e t:ByteArray)(k a:Int):Prop:=gDpB os xs nm false s e t k a
end
end Go.Proofs.YtpofhijgccocpaaGreatDoor
end
section
namespace Go.Proofs.YtpofhijgccocpaaGreatDoor
open Go Go.AS Go.TP
theorem gTop_vc (ns:List AV):gTop (Orc.z) ns=(let z1:=((↑(List.length ns):Int)-(1:Int)); inR IntKind.i64 z1=true∧Wk (i0 z1) (i0 z1)∧SameH (hpL []) (hpL [])):=by kernel_rfl
theorem rDE_vc (P:ByteArray→ByteArray→Prop)(xs:List AV)(c:Bool)(s e:ByteArray)(i:Int):rDE (Orc.f (Orc.f (Orc.f Orc.z))) P xs c s e i=(decide (i<(↑(List.length xs):Int))=false∧Nf (Nf (Ex.exit 0=Ex.exit 0∧Wk (AV.tup [b0 c,s0 s,s0 e]) (AV.tup [b0 c,s0 s,s0 e])∧SameH (hpL []) (hpL [])))):=by kernel_rfl
theorem rDF_vc (P:ByteArray→ByteArray→Prop)(xs:List AV)(c:Bool)(s e:ByteArray)(i:Int):rDF (Orc.t (Orc.t (Orc.f Orc.z))) P xs c s e i=(decide (i<(↑(List.length xs):Int))=true∧Yt (decide (i<(40:Int))=false∧Ex.exit 0=Ex.exit 0∧Wk (AV.tup [b0 c,s0 s,s0 e]) (AV.tup [b0 c,s0 s,s0 e])∧SameH (hpL []) (hpL []))):=by kernel_rfl
def orDA:Orc:=Orc.t (Orc.t (Orc.t (Orc.s Orc.z (Orc.s Orc.z (Orc.s Orc.z (Orc.s Orc.z Orc.z))))))
theorem rDA_vc (P:ByteArray→ByteArray→Prop)(xs:List AV)(c:Bool)(s e:ByteArray)(i:Int)(s' e':ByteArray):rDA orDA P xs c s e i s' e'=(let z1:=(AV.tup [b0 c,s0 s',s0 e']); let z2:=(i+(1:Int)); let z3:=(1+ByteArray.size e≤9223372036854775807); let z4:=AV.lst false 1 xs; let z5:=(ByteArray.size s+1≤9223372036854775807); let z6:=[(41:UInt8)]; decide (i<(↑(List.length xs):Int))=true∧Yt (decide (i<(40:Int))=true∧(decide ((0:Int)≤i∧i<(↑(List.length xs):Int))&&(true&&(isShp (Cx.B (cxV XDp 10 fDeep)) shN 3 (List.getD xs (Int.toNat i) (AV.lit (Value.tuple { toList:=[] })))&&(false||true))))=true∧∃ (i1:Int × Int),(((0:Int)<Prod.snd i1∧Prod.snd i1≤(1000000:Int))∧Wks [i0 (intA (List.getD xs (Int.toNat i) (AV.lit (Value.tuple { toList:=[] })))),i0 (5:Int)] [i0 (Prod.fst i1),i0 (Prod.snd i1)]∧hpL []=hpL [])∧((Prod.fst i1 % Prod.snd i1==(0:Int))=true→decide z5=true∧decide z3=true∧inR IntKind.i64 z2=true∧∃ (i2:ByteArray × ByteArray),(P (Prod.fst i2) (Prod.snd i2)∧Wks [z4,b0 c,s0 (s++⟨⟨[(40:UInt8)]⟩⟩),s0 ({ data:={ toList:=z6 } }++e),i0 z2] [z4,b0 c,s0 (Prod.fst i2),s0 (Prod.snd i2),i0 z2]∧hpL []=hpL [])∧Ex.exit 0=Ex.exit 0∧Wk z1 z1∧SameH (hpL []) (hpL []))∧((Prod.fst i1 % Prod.snd i1==(0:Int))=false→((Prod.fst i1 % Prod.snd i1==(1:Int))=true→decide z5=true∧inR IntKind.i64 z2=true∧∃ (i3:ByteArray × ByteArray),(P (Prod.fst i3) (Prod.snd i3)∧Wks [z4,b0 c,s0 (s++⟨⟨[(33:UInt8)]⟩⟩),s0 e,i0 z2] [z4,b0 c,s0 (Prod.fst i3),s0 (Prod.snd i3),i0 z2]∧hpL []=hpL [])∧Ex.exit 0=Ex.exit 0∧Wk z1 z1∧SameH (hpL []) (hpL []))∧((Prod.fst i1 % Prod.snd i1==(1:Int))=false→((Prod.fst i1 % Prod.snd i1==(2:Int))=true→decide (ByteArray.size s+6≤9223372036854775807)=true∧decide z3=true∧inR IntKind.i64 z2=true∧∃ (i4:ByteArray × ByteArray),(P (Prod.fst i4) (Prod.snd i4)∧Wks [z4,b0 c,s0 (s++⟨⟨[(104:UInt8),(101:UInt8),(97:UInt8),(100:UInt8),(115:UInt8),(40:UInt8)]⟩⟩),s0 ({ data:={ toList:=z6 } }++e),i0 z2] [z4,b0 c,s0 (Prod.fst i4),s0 (Prod.snd i4),i0 z2]∧hpL []=hpL [])∧Ex.exit 0=Ex.exit 0∧Wk z1 z1∧SameH (hpL []) (hpL []))∧((Prod.fst i1 % Prod.snd i1==(2:Int))=false→((Prod.fst i1 % Prod.snd i1==(3:Int))=true→decide (ByteArray.size s+3≤9223372036854775807)=true∧decide z3=true∧inR IntKind.i64 z2=true∧∃ (i5:ByteArray × ByteArray),(P (Prod.fst i5) (Prod.snd i5)∧Wks [z4,b0 c,s0 (s++⟨⟨[(58:UInt8),(58:UInt8),(40:UInt8)]⟩⟩),s0 ({ data:={ toList:=z6 } }++e),i0 z2] [z4,b0 c,s0 (Prod.fst i5),s0 (Prod.snd i5),i0 z2]∧hpL []=hpL [])∧Ex.exit 0=Ex.exit 0∧Wk z1 z1∧SameH (hpL []) (hpL []))∧((Prod.fst i1 % Prod.snd i1==(3:Int))=false→decide (ByteArray.size s+4≤9223372036854775807)=true∧decide z3=true∧inR IntKind.i64 z2=true∧∃ (i6:ByteArray × ByteArray),(P (Prod.fst i6) (Prod.snd i6)∧Wks [z4,b0 c,s0 (s++⟨⟨[(97:UInt8),(98:UInt8),(43:UInt8),(40:UInt8)]⟩⟩),s0 ({ data:={ toList:=z6 } }++e),i0 z2] [z4,b0 c,s0 (Prod.fst i6),s0 (Prod.snd i6),i0 z2]∧hpL []=hpL [])∧Ex.exit 0=Ex.exit 0∧Wk z1 z1∧SameH (hpL []) (hpL []))))))):=by kernel_rfl
theorem gDpO1_vc (xs:List AV)(nm:Int)(s e t:ByteArray)(k a m:Int)(w:ByteArray)(vs ns:List AV):gDpO1 (Orc.t (Orc.t (Orc.t (Orc.t (Orc.t (Orc.t (Orc.t (Orc.t (Orc.t (Orc.t (Orc.t (Orc.t (Orc.t (Orc.t (Orc.t (Orc.t (Orc.t (Orc.t (Orc.t (Orc.t Orc.z)))))))))))))))))))) xs nm s e t k a m w vs ns=(let z1:=[AV.agg [i0 k,i0 a,i0 m,s0 w,AV.lst false 5 vs],AV.agg [AV.lst false 5 ns],i0 ((↑(List.length ns):Int)-(1:Int))]; let z2:=[(97:UInt8),(98:UInt8)]; ∃ (_:Unit),(True∧Wks [AV.lst false 1 xs,b0 true,s0 ⟨⟨[]⟩⟩,s0 ⟨⟨[]⟩⟩,i0 (0:Int)] [AV.lst false 1 xs,b0 true,s0 ByteArray.empty,s0 ByteArray.empty,i0 (0:Int)]∧hpL []=hpL [])∧decide (ByteArray.size s+2≤9223372036854775807)=true∧Yt (decide (ByteArray.size (s++{ data:={ toList:=z2 } })+ByteArray.size e≤9223372036854775807)=true∧∃ (_:Unit),(True∧Wks [s0 (s++{ data:={ toList:=z2 } }++e)] [s0 t]∧hpL []=hpL [])∧∃ (_:Unit),(True∧Wks [s0 (s++{ data:={ toList:=z2 } }++e)] [s0 t]∧hpL []=hpL [])∧U1 [] [] (Yt (Yt (U1 [AV.lit Value.nilIface] [] (Yt4 (Yt4 (Yt (U1 [AV.agg [AV.lst false 5 ns]] [] (Yt (U1 z1 [] (Yt4 (Yt (Yt (Yt (b0 true=b0 true)))))))))))))))):=by kernel_rfl
theorem gDpO0_vc (xs:List AV)(nm:Int)(s e t:ByteArray)(k a m:Int)(w:ByteArray)(vs ns:List AV):gDpO0 (Orc.f (Orc.t (Orc.t (Orc.t (Orc.t (Orc.t (Orc.t (Orc.t (Orc.t (Orc.t (Orc.t (Orc.t (Orc.t (Orc.t (Orc.t (Orc.t (Orc.t (Orc.t (Orc.t (Orc.t Orc.z)))))))))))))))))))) xs nm s e t k a m w vs ns=(let z1:=[AV.agg [i0 k,i0 a,i0 m,s0 w,AV.lst false 5 vs],AV.agg [AV.lst false 5 ns],i0 ((↑(List.length ns):Int)-(1:Int))]; ∃ (_:Unit),(True∧Wks [AV.lst false 1 xs,b0 false,s0 ⟨⟨[]⟩⟩,s0 ⟨⟨[]⟩⟩,i0 (0:Int)] [AV.lst false 1 xs,b0 false,s0 ByteArray.empty,s0 ByteArray.empty,i0 (0:Int)]∧hpL []=hpL [])∧decide (ByteArray.size s+2≤9223372036854775807)=true∧Nf (∃ (_:Unit),(True∧Wks [s0 (s++⟨⟨[(97:UInt8),(98:UInt8)]⟩⟩)] [s0 t]∧hpL []=hpL [])∧∃ (_:Unit),(True∧Wks [s0 (s++⟨⟨[(97:UInt8),(98:UInt8)]⟩⟩)] [s0 t]∧hpL []=hpL [])∧U1 [] [] (Yt (Yt (U1 [AV.lit Value.nilIface] [] (Yt4 (Yt4 (Yt (U1 [AV.agg [AV.lst false 5 ns]] [] (Yt (U1 z1 [] (Yt4 (Yt (Yt (Yt (b0 true=b0 true)))))))))))))))):=by kernel_rfl
theorem gDpB1_vc (xs:List AV)(nm:Int)(s e t:ByteArray)(k a:Int):gDpB1 (Orc.t (Orc.t (Orc.t (Orc.t (Orc.t (Orc.t (Orc.t (Orc.t (Orc.f (Orc.f (Orc.f (Orc.f (Orc.f (Orc.t (Orc.t (Orc.f (Orc.f (Orc.f (Orc.t (Orc.t (Orc.t (Orc.t (Orc.f (Orc.t Orc.z)))))))))))))))))))))))) xs nm s e t k a=(let z1:=[AV.iface 118 (AV.ref (AV.agg [i0 a,AV.iface 26 (i0 k)]))]; let z2:=[(97:UInt8),(98:UInt8)]; let z3:=(True∧Wks z1 z1∧hpL []=hpL []); ∃ (_:Unit),(True∧Wks [AV.lst false 1 xs,b0 true,s0 ⟨⟨[]⟩⟩,s0 ⟨⟨[]⟩⟩,i0 (0:Int)] [AV.lst false 1 xs,b0 true,s0 ByteArray.empty,s0 ByteArray.empty,i0 (0:Int)]∧hpL []=hpL [])∧decide (ByteArray.size s+2≤9223372036854775807)=true∧Yt (decide (ByteArray.size (s++{ data:={ toList:=z2 } })+ByteArray.size e≤9223372036854775807)=true∧∃ (_:Unit),(True∧Wks [s0 (s++{ data:={ toList:=z2 } }++e)] [s0 t]∧hpL []=hpL [])∧∃ (_:Unit),(True∧Wks [s0 (s++{ data:={ toList:=z2 } }++e)] [s0 t]∧hpL []=hpL [])∧U1 [] [] (Yt (Yt (∃ (_:Unit),z3∧Yt (Yt ((k==k)=true∧Yt (Yt ((k==(0:Int))=false∧Nf4 (Yt (Yt (Nf (Nf (Nf ((k != (0:Int))=true∧Yt (∃ (_:Unit),z3∧Yt (Yt (Nf (Yt (b0 (a==a)=b0 true)))))))))))))))))))):=by kernel_rfl
theorem gDpB0_vc (xs:List AV)(nm:Int)(s e t:ByteArray)(k a:Int):gDpB0 (Orc.f (Orc.t (Orc.t (Orc.t (Orc.t (Orc.t (Orc.t (Orc.t (Orc.f (Orc.f (Orc.f (Orc.f (Orc.f (Orc.t (Orc.t (Orc.f (Orc.f (Orc.f (Orc.t (Orc.t (Orc.t (Orc.t (Orc.f (Orc.t Orc.z)))))))))))))))))))))))) xs nm s e t k a=(let z1:=[AV.iface 118 (AV.ref (AV.agg [i0 a,AV.iface 26 (i0 k)]))]; let z2:=(True∧Wks z1 z1∧hpL []=hpL []); ∃ (_:Unit),(True∧Wks [AV.lst false 1 xs,b0 false,s0 ⟨⟨[]⟩⟩,s0 ⟨⟨[]⟩⟩,i0 (0:Int)] [AV.lst false 1 xs,b0 false,s0 ByteArray.empty,s0 ByteArray.empty,i0 (0:Int)]∧hpL []=hpL [])∧decide (ByteArray.size s+2≤9223372036854775807)=true∧Nf (∃ (_:Unit),(True∧Wks [s0 (s++⟨⟨[(97:UInt8),(98:UInt8)]⟩⟩)] [s0 t]∧hpL []=hpL [])∧∃ (_:Unit),(True∧Wks [s0 (s++⟨⟨[(97:UInt8),(98:UInt8)]⟩⟩)] [s0 t]∧hpL []=hpL [])∧U1 [] [] (Yt (Yt (∃ (_:Unit),z2∧Yt (Yt ((k==k)=true∧Yt (Yt ((k==(0:Int))=false∧Nf4 (Yt (Yt (Nf (Nf (Nf ((k != (0:Int))=true∧Yt (∃ (_:Unit),z2∧Yt (Yt (Nf (Yt (b0 (a==a)=b0 true)))))))))))))))))))):=by kernel_rfl
end Go.Proofs.YtpofhijgccocpaaGreatDoor
end
section
namespace Go.Proofs.YtpofhijgccocpaaGreatDoor
open Go Go.AS Go.TP
noncomputable abbrev qVK130 (ts:List AV):=[eR 1048577 [0,0] 6 [AV.agg [AV.lst false 3 ts,i0 (0:Int),i0 (0:Int),AV.agg [AV.lit (Value.slice none 0 0)],i0 (0:Int),i0 (0:Int)]]]
theorem gXPL_vc (s:ByteArray)(e i:Int):gXPL (Orc.t Orc.z) s e i=(U1 [s0 s] [] ((e != (0:Int))=true∧Wk (AV.tup [AV.agg [AV.lit (Value.slice none 0 0)],i0 e,i0 i]) (AV.tup [AV.agg [AV.lst false 5 []],i0 e,i0 i])∧SameH (hpL []) (hpL []))):=by kernel_rfl
theorem gXPB_vc (s:ByteArray)(ts:List AV)(v k d:Int)(xs:List AV)(bad pl:Int):gXPB (Orc.f (Orc.f (Orc.f (Orc.f (Orc.f (Orc.t Orc.z)))))) s ts v k d xs bad pl=(U1 [s0 s] [] (Nf (U1 [AV.ptr 1048577 [0,0] 0 0] (qVK130 ts) ((bad==(0:Int))=false∧Nf (Nf (Nf ((bad != (0:Int))=true∧Wk (AV.tup [AV.agg [AV.lit (Value.slice none 0 0)],i0 bad,i0 pl]) (AV.tup [AV.agg [AV.lst false 5 []],i0 bad,i0 pl])∧SameH (hpL []) (hpL [])))))))):=by kernel_rfl
theorem gXPN_vc (s:ByteArray)(ts:List AV)(v k d:Int)(xs:List AV)(bad pl:Int):gXPN (Orc.f (Orc.t (Orc.t (Orc.t (Orc.t (Orc.t Orc.z)))))) s ts v k d xs bad pl=(let z1:=[AV.agg [AV.lst false 3 ts,i0 k,i0 d,AV.agg [AV.slc 1048577 [0,0] 0 (List.length xs)],i0 (0:Int),i0 (0:Int)]]; let z2:=AV.ptr 1048578 [1,0] 0 0; let z3:=eR 1048577 [0,0] 5 xs; U1 [s0 s] [] (Nf (U1 [AV.ptr 1048577 [0,0] 0 0] (qVK130 ts) (Yt (Yt (U1 [z2,i0 (11:Int)] [z3,(1048578,{ id:=[1,0],obj:=AObj.row false 6 z1 })] (Yt (Yt (U1 [z2,i0 (15:Int)] [z3,(1048578,{ id:=[1,0],obj:=AObj.row false 6 z1 })] ((bad != (0:Int))=true∧Wk (AV.tup [AV.agg [AV.lit (Value.slice none 0 0)],i0 bad,i0 pl]) (AV.tup [AV.agg [AV.lst false 5 []],i0 bad,i0 pl])∧SameH (hpL []) (hpL []))))))))))):=by kernel_rfl
theorem gXPY_vc (s:ByteArray)(ts:List AV)(v k d:Int)(xs:List AV):gXPY (Orc.f (Orc.t (Orc.t (Orc.t (Orc.f (Orc.f Orc.z)))))) s ts v k d xs=(let z1:=(Option.getD (some (v+(1:Int))) (↑(List.length xs):Int)-(0:Int)); let z2:=[AV.agg [AV.lst false 3 ts,i0 k,i0 d,AV.agg [AV.slc 1048577 [0,0] 0 (List.length xs)],i0 (0:Int),i0 (0:Int)]]; let z3:=(↑(List.length xs):Int); let z4:=[AV.ptr 1048578 [1,0] 0 0,i0 (11:Int)]; let z5:=(v+(1:Int)); U1 [s0 s] [] (Nf (U1 [AV.ptr 1048577 [0,0] 0 0] (qVK130 ts) (Yt (Yt (U1 z4 [eR 1048577 [0,0] 5 xs,(1048578,{ id:=[1,0],obj:=AObj.row false 6 z2 })] (Yt (Nf (Nf (inR IntKind.i64 z5=true∧(decide ((0:Int)≤(0:Int)∧(0:Int)≤Option.getD (some z5) z3∧Option.getD (some z5) z3≤z3)&&(true&&Nat.beq 5 5))=true∧0+Int.toNat z1≤List.length xs∧0+Int.toNat z1≤List.length xs∧0+Int.toNat z1≤List.length xs∧0+List.length xs≤List.length xs∧0+List.length xs≤List.length xs∧Wk (AV.tup [AV.agg [AV.lst false 5 (List.take (Int.toNat z1) (List.drop 0 xs))],i0 (0:Int),i0 (0:Int)]) (AV.tup [AV.agg [AV.lst false 5 (List.take (Int.toNat z5) xs)],i0 (0:Int),i0 (0:Int)])∧SameH (hpL []) (hpL []))))))))))):=by kernel_rfl
end Go.Proofs.YtpofhijgccocpaaGreatDoor
end
section
namespace Go.Proofs.YtpofhijgccocpaaGreatDoor
open Go.AS Go.TP
noncomputable section
abbrev exX (v:Int)(σ:Hp)(ws:List Nat):Ex × Back:=(.exit 0,⟨.tup [i0 v],σ,ws⟩)
def gXL (X:WX)(f:Nat)(os:Orc)(P:Prop)(v':Int)(σ':Hp)(r':Ex × Back)(fc:List Nat)(v:Int)(σ:Hp)(r:Ex × Back):Prop :=
 runL X 14 f (fn f).ntmps (loopAt (code f) 0) (Lp1 [0,3] [] (fun _=>[3]) P [xArg,i0 v'] σ' r') (Lp1 [0,3] [] (fun _=>[3]) P [xArg,i0 v'] σ' r') os 0 fc [xArg,i0 v] σ r
def gLTE (os:Orc)(P:Prop)(ts:List AV)(k d:Int)(xs:List AV)(bad pl va:Int):Prop :=
 gXL (XQn (XB.add fXIs (Sp.con [spI 9 false (xHp 0 ts k d xs bad pl)])) fXTerm [18,20]) fXTerm os P va (xHp 0 ts k d xs bad pl) (exX va (xHp 0 ts k d xs bad pl) []) [] va (xHp 0 ts k d xs bad pl) (exX va (xHp 0 ts k d xs bad pl) [])
def gLT9 (os:Orc)(P:Prop)(ts:List AV)(k d:Int)(xs:List AV)(va k2 d2:Int)(xs2:List AV)(bad2 pl2 v a:Int)(vr kr dr:Int)(xr:List AV)(badr plr:Int):Prop :=
 gXL (XQn (((XB.add fXIs (Sp.con [spI 9 true (xHp 0 ts k d xs 0 0)])).add fXPart (Sp.con [spV v (xHp 0 ts (k+1) d xs 0 0) (xHp 1 ts k2 d2 xs2 bad2 pl2)])).add fXAdd (Sp.con [spA (rgV 4 a 0 ByteArray.empty [i0 va,i0 v]) xs2.length (xHp 0 ts k2 d2 xs2 bad2 pl2) (xHp 1 ts k2 d2 (xs2++[(rgV 4 a 0 ByteArray.empty [i0 va,i0 v])]) bad2 pl2)])) fXTerm [18,20]) fXTerm os P xs2.length (xHp 0 ts k2 d2 (xs2++[(rgV 4 a 0 ByteArray.empty [i0 va,i0 v])]) bad2 pl2) (exX vr (xHp 1 ts kr dr xr badr plr) [1048577,1048578]) [1048577] va (xHp 0 ts k d xs 0 0) (exX vr (xHp 1 ts kr dr xr badr plr) [1048577,1048578])
def gFT (os:Orc)(ts:List AV)(k d:Int)(xs:List AV)(ka da:Int)(xsa:List AV)(bada pla va:Int)(vr kr dr:Int)(xr:List AV)(badr plr:Int):Prop :=
 runF (((XB.add fXPart (Sp.con [spV va (xHp 0 ts k d xs 0 0) (xHp 1 ts ka da xsa bada pla)])).addLp fXTerm 0 (Lp1 [0,3] [] (fun _=>[3]) True [xArg,i0 va] (xHp 0 ts ka da xsa bada pla) (exX vr (xHp 1 ts kr dr xr badr plr) [1048577,1048578]))).ask askX) 14 fXTerm (fn fXTerm) (code fXTerm) os 0 [1048577] [xArg] (xHp 0 ts k d xs 0 0) ⟨i0 vr,(xHp 1 ts kr dr xr badr plr),[1048577,1048578]⟩
def gLEE (os:Orc)(P:Prop)(ts:List AV)(k d:Int)(xs:List AV)(bad pl va:Int):Prop :=
 gXL (XQn (XB.add fXIs (Sp.con [spI 7 false (xHp 0 ts k d xs bad pl),spI 8 false (xHp 0 ts k d xs bad pl)])) fXExpr [22,24]) fXExpr os P va (xHp 0 ts k d xs bad pl) (exX va (xHp 0 ts k d xs bad pl) []) [] va (xHp 0 ts k d xs bad pl) (exX va (xHp 0 ts k d xs bad pl) [])
def gLE7 (os:Orc)(P:Prop)(ts:List AV)(k d:Int)(xs:List AV)(va k2 d2:Int)(xs2:List AV)(bad2 pl2 v a:Int)(vr kr dr:Int)(xr:List AV)(badr plr:Int):Prop :=
 gXL (XQn (((XB.add fXIs (Sp.con [spI 7 true (xHp 0 ts k d xs 0 0),spI 8 false (xHp 0 ts k d xs 0 0)])).add fXTerm (Sp.con [spV v (xHp 0 ts (k+1) d xs 0 0) (xHp 1 ts k2 d2 xs2 bad2 pl2)])).add fXAdd (Sp.con [spA (rgV 2 a 0 ByteArray.empty [i0 va,i0 v]) xs2.length (xHp 0 ts k2 d2 xs2 bad2 pl2) (xHp 1 ts k2 d2 (xs2++[(rgV 2 a 0 ByteArray.empty [i0 va,i0 v])]) bad2 pl2)])) fXExpr [22,24]) fXExpr os P xs2.length (xHp 0 ts k2 d2 (xs2++[(rgV 2 a 0 ByteArray.empty [i0 va,i0 v])]) bad2 pl2) (exX vr (xHp 1 ts kr dr xr badr plr) [1048577,1048578]) [1048577] va (xHp 0 ts k d xs 0 0) (exX vr (xHp 1 ts kr dr xr badr plr) [1048577,1048578])
def gLE8 (os:Orc)(P:Prop)(ts:List AV)(k d:Int)(xs:List AV)(va k2 d2:Int)(xs2:List AV)(bad2 pl2 v a:Int)(vr kr dr:Int)(xr:List AV)(badr plr:Int):Prop :=
 gXL (XQn (((XB.add fXIs (Sp.con [spI 7 false (xHp 0 ts k d xs 0 0),spI 8 true (xHp 0 ts k d xs 0 0)])).add fXTerm (Sp.con [spV v (xHp 0 ts (k+1) d xs 0 0) (xHp 1 ts k2 d2 xs2 bad2 pl2)])).add fXAdd (Sp.con [spA (rgV 3 a 0 ByteArray.empty [i0 va,i0 v]) xs2.length (xHp 0 ts k2 d2 xs2 bad2 pl2) (xHp 1 ts k2 d2 (xs2++[(rgV 3 a 0 ByteArray.empty [i0 va,i0 v])]) bad2 pl2)])) fXExpr [22,24]) fXExpr os P xs2.length (xHp 0 ts k2 d2 (xs2++[(rgV 3 a 0 ByteArray.empty [i0 va,i0 v])]) bad2 pl2) (exX vr (xHp 1 ts kr dr xr badr plr) [1048577,1048578]) [1048577] va (xHp 0 ts k d xs 0 0) (exX vr (xHp 1 ts kr dr xr badr plr) [1048577,1048578])
def gFE (os:Orc)(ts:List AV)(k d:Int)(xs:List AV)(ka da:Int)(xsa:List AV)(bada pla va:Int)(vr kr dr:Int)(xr:List AV)(badr plr:Int):Prop :=
 runF (((XB.add fXTerm (Sp.con [spV va (xHp 0 ts k d xs 0 0) (xHp 1 ts ka da xsa bada pla)])).addLp fXExpr 0 (Lp1 [0,3] [] (fun _=>[3]) True [xArg,i0 va] (xHp 0 ts ka da xsa bada pla) (exX vr (xHp 1 ts kr dr xr badr plr) [1048577,1048578]))).ask askX) 14 fXExpr (fn fXExpr) (code fXExpr) os 0 [1048577] [xArg] (xHp 0 ts k d xs 0 0) ⟨i0 vr,(xHp 1 ts kr dr xr badr plr),[1048577,1048578]⟩
end
end Go.Proofs.YtpofhijgccocpaaGreatDoor
end
section
namespace Go.Proofs.YtpofhijgccocpaaGreatDoor
open Go Go.AS Go.TP
noncomputable abbrev qVK110 (ts:List AV)(k:Int)(d:Int)(xs:List AV):=[AV.agg [AV.lst false 3 ts,i0 k,i0 d,AV.slc 1048577 [0,0] 0 (List.length xs),i0 (0:Int),i0 (0:Int)]]
noncomputable abbrev qVK111 (ts:List AV)(k:Int)(d:Int)(xs:List AV)(bad:Int)(pl:Int):=[AV.agg [AV.lst false 3 ts,i0 k,i0 d,AV.slc 1048577 [0,0] 0 (List.length xs),i0 bad,i0 pl]]
noncomputable abbrev qVK112 (ts:List AV)(kr:Int)(dr:Int)(xr:List AV)(badr:Int)(plr:Int):=[AV.agg [AV.lst false 3 ts,i0 kr,i0 dr,AV.slc 1048577 [0,1] 0 (List.length xr),i0 badr,i0 plr]]
noncomputable abbrev qVK113 (ts:List AV)(k:Int)(d:Int)(xs:List AV):=[AV.agg [AV.lst false 3 ts,i0 (k+(1:Int)),i0 d,AV.slc 1048577 [0,0] 0 (List.length xs),i0 (0:Int),i0 (0:Int)]]
theorem gLTE_vc (P:Prop)(ts:List AV)(k d:Int)(xs:List AV)(bad pl va:Int):gLTE (Orc.f Orc.z) P ts k d xs bad pl va=(let z1:=(qVK111 ts k d xs bad pl); let z2:=eR 1048577 [0,0] 5 xs; let z3:=[AV.ptr 1048578 [1,0] 0 0,i0 (9:Int)]; U1 z3 [z2,(1048578,{ id:=[1,0],obj:=AObj.row false 6 z1 })] (Nf (Ex.exit 0=Ex.exit 0∧Wk (AV.tup [i0 va]) (AV.tup [i0 va])∧SameH (hpL [z2,(1048578,{ id:=[1,0],obj:=AObj.row false 6 z1 })]) (hpL [z2,(1048578,{ id:=[1,0],obj:=AObj.row false 6 z1 })])))):=by kernel_rfl
theorem gLT9_vc (P:Prop)(ts:List AV)(k d:Int)(xs:List AV)(va k2 d2:Int)(xs2:List AV)(bad2 pl2:Int)(v a:Int)(vr kr dr:Int)(xr:List AV)(badr plr:Int):gLT9 (Orc.t Orc.z) P ts k d xs va k2 d2 xs2 bad2 pl2 v a vr kr dr xr badr plr=(let z1:=AV.agg [i0 (4:Int),i0 a,i0 (0:Int),s0 ByteArray.empty,AV.lst false 1 [i0 va,i0 v]]; let z2:=AV.ptr 1048578 [1,0] 0 0; let z3:=[AV.agg [AV.lst false 3 ts,i0 k2,i0 d2,AV.slc 1048577 [0,0] 0 (List.length (xs2++[z1])),i0 bad2,i0 pl2]]; let z4:=[AV.agg [AV.lst false 3 ts,i0 k2,i0 d2,AV.slc 1048577 [0,0] 0 (List.length xs2),i0 bad2,i0 pl2]]; let z5:=eR 1048577 [0,0] 5 xs; let z6:=(↑(List.length xs2):Int); U1 [z2,i0 (9:Int)] [z5,(1048578,{ id:=[1,0],obj:=AObj.row false 6 (qVK110 ts k d xs) })] (Yt ((decide ((0:Int)≤k∧k<(↑(List.length ts):Int))&&(Nat.beq 3 3&&(isShp (Cx.B (cxV (XQn (WX.add (WX.add (WX.add XB fXIs (Sp.con [spI (9:Int) true (xHp 0 ts k d xs (0:Int) (0:Int))])) fXPart (Sp.con [spV v (xHp 0 ts (k+(1:Int)) d xs (0:Int) (0:Int)) (xHp 1 ts k2 d2 xs2 bad2 pl2)])) fXAdd (Sp.con [spA (rgV (4:Int) a (0:Int) ByteArray.empty [i0 va,i0 v]) z6 (xHp 0 ts k2 d2 xs2 bad2 pl2) (xHp 1 ts k2 d2 (xs2++[rgV (4:Int) a (0:Int) ByteArray.empty [i0 va,i0 v]]) bad2 pl2)])) fXTerm [18,20]) 14 fXTerm)) shN 124 (List.getD ts (Int.toNat k) (AV.lit (Value.tuple { toList:=[] })))&&(true||false))))=true∧inR IntKind.i64 (k+(1:Int))=true∧U1 [z2] [z5,(1048578,{ id:=[1,0],obj:=AObj.row false 6 (qVK113 ts k d xs) })] (∃ (_:Unit),(True∧Wks [z2,AV.agg [i0 (4:Int),i0 (intA (nthA 1 (List.getD ts (Int.toNat k) (AV.lit (Value.tuple { toList:=[] }))))),i0 (0:Int),s0 ⟨⟨[]⟩⟩,AV.lst true 1 [i0 va,i0 v]]] [z2,z1]∧hpL [eR 1048577 [0,0] 5 xs2,(1048578,{ id:=[1,0],obj:=AObj.row false 6 z4 })]=hpL [eR 1048577 [0,0] 5 xs2,(1048578,{ id:=[1,0],obj:=AObj.row false 6 z4 })])∧∃ (_:Unit),(P∧Wks [z2,i0 z6] [z2,i0 z6]∧hpL [eR 1048577 [0,0] 5 (xs2++[z1]),(1048578,{ id:=[1,0],obj:=AObj.row false 6 z3 })]=hpL [eR 1048577 [0,0] 5 (xs2++[z1]),(1048578,{ id:=[1,0],obj:=AObj.row false 6 z3 })])∧Ex.exit 0=Ex.exit 0∧Wk (AV.tup [i0 vr]) (AV.tup [i0 vr])∧SameH (hpL [eR 1048577 [0,1] 5 xr,(1048578,{ id:=[1,0],obj:=AObj.row false 6 (qVK112 ts kr dr xr badr plr) })]) (hpL [eR 1048577 [0,1] 5 xr,(1048578,{ id:=[1,0],obj:=AObj.row false 6 (qVK112 ts kr dr xr badr plr) })]))))):=by kernel_rfl
theorem gFT_vc (ts:List AV)(k d:Int)(xs:List AV)(ka da:Int)(xsa:List AV)(bada pla:Int)(va vr:Int)(kr dr:Int)(xr:List AV)(badr plr:Int):gFT (Orc.z) ts k d xs ka da xsa bada pla va vr kr dr xr badr plr=(let z1:=[AV.agg [AV.lst false 3 ts,i0 ka,i0 da,AV.slc 1048577 [0,0] 0 (List.length xsa),i0 bada,i0 pla]]; let z2:=AV.ptr 1048578 [1,0] 0 0; U1 [z2] [eR 1048577 [0,0] 5 xs,(1048578,{ id:=[1,0],obj:=AObj.row false 6 (qVK110 ts k d xs) })] (U1 [z2,i0 va] [eR 1048577 [0,0] 5 xsa,(1048578,{ id:=[1,0],obj:=AObj.row false 6 z1 })] (Wk (i0 vr) (i0 vr)∧SameH (hpL [eR 1048577 [0,1] 5 xr,(1048578,{ id:=[1,0],obj:=AObj.row false 6 (qVK112 ts kr dr xr badr plr) })]) (hpL [eR 1048577 [0,1] 5 xr,(1048578,{ id:=[1,0],obj:=AObj.row false 6 (qVK112 ts kr dr xr badr plr) })])))):=by kernel_rfl
def ogLEE:Orc:=Orc.alt 0 (Orc.f (Orc.f (Orc.alt 1 (Orc.f Orc.z))))
theorem gLEE_vc (P:Prop)(ts:List AV)(k d:Int)(xs:List AV)(bad pl va:Int):gLEE ogLEE P ts k d xs bad pl va=(let z1:=(qVK111 ts k d xs bad pl); let z2:=eR 1048577 [0,0] 5 xs; let z3:=AV.ptr 1048578 [1,0] 0 0; U1 [z3,i0 (7:Int)] [z2,(1048578,{ id:=[1,0],obj:=AObj.row false 6 z1 })] (Nf (Nf (U1 [z3,i0 (8:Int)] [z2,(1048578,{ id:=[1,0],obj:=AObj.row false 6 z1 })] (Nf (Ex.exit 0=Ex.exit 0∧Wk (AV.tup [i0 va]) (AV.tup [i0 va])∧SameH (hpL [z2,(1048578,{ id:=[1,0],obj:=AObj.row false 6 z1 })]) (hpL [z2,(1048578,{ id:=[1,0],obj:=AObj.row false 6 z1 })]))))))):=by kernel_rfl
def ogLE7:Orc:=Orc.alt 0 (Orc.t (Orc.t (Orc.t (Orc.alt 1 (Orc.f Orc.z)))))
theorem gLE7_vc (P:Prop)(ts:List AV)(k d:Int)(xs:List AV)(va k2 d2:Int)(xs2:List AV)(bad2 pl2:Int)(v a:Int)(vr kr dr:Int)(xr:List AV)(badr plr:Int):gLE7 ogLE7 P ts k d xs va k2 d2 xs2 bad2 pl2 v a vr kr dr xr badr plr=(let z1:=AV.agg [i0 (2:Int),i0 a,i0 (0:Int),s0 ByteArray.empty,AV.lst false 1 [i0 va,i0 v]]; let z2:=AV.ptr 1048578 [1,0] 0 0; let z3:=[AV.agg [AV.lst false 3 ts,i0 k2,i0 d2,AV.slc 1048577 [0,0] 0 (List.length (xs2++[z1])),i0 bad2,i0 pl2]]; let z4:=[AV.agg [AV.lst false 3 ts,i0 k2,i0 d2,AV.slc 1048577 [0,0] 0 (List.length xs2),i0 bad2,i0 pl2]]; let z5:=eR 1048577 [0,0] 5 xs; let z6:=(↑(List.length xs2):Int); let z7:=(qVK110 ts k d xs); let z8:=(xHp 0 ts k d xs (0:Int) (0:Int)); U1 [z2,i0 (7:Int)] [z5,(1048578,{ id:=[1,0],obj:=AObj.row false 6 z7 })] (Yt (Yt (Yt ((decide ((0:Int)≤k∧k<(↑(List.length ts):Int))&&(Nat.beq 3 3&&(isShp (Cx.B (cxV (XQn (WX.add (WX.add (WX.add XB fXIs (Sp.con [spI (7:Int) true z8,spI (8:Int) false z8])) fXTerm (Sp.con [spV v (xHp 0 ts (k+(1:Int)) d xs (0:Int) (0:Int)) (xHp 1 ts k2 d2 xs2 bad2 pl2)])) fXAdd (Sp.con [spA (rgV (2:Int) a (0:Int) ByteArray.empty [i0 va,i0 v]) z6 (xHp 0 ts k2 d2 xs2 bad2 pl2) (xHp 1 ts k2 d2 (xs2++[rgV (2:Int) a (0:Int) ByteArray.empty [i0 va,i0 v]]) bad2 pl2)])) fXExpr [22,24]) 14 fXExpr)) shN 124 (List.getD ts (Int.toNat k) (AV.lit (Value.tuple { toList:=[] })))&&(true||false))))=true∧U1 [z2,i0 (8:Int)] [z5,(1048578,{ id:=[1,0],obj:=AObj.row false 6 z7 })] (Nf (inR IntKind.i64 (k+(1:Int))=true∧U1 [z2] [z5,(1048578,{ id:=[1,0],obj:=AObj.row false 6 (qVK113 ts k d xs) })] (∃ (_:Unit),(True∧Wks [z2,AV.agg [i0 (2:Int),i0 (intA (nthA 1 (List.getD ts (Int.toNat k) (AV.lit (Value.tuple { toList:=[] }))))),i0 (0:Int),s0 ⟨⟨[]⟩⟩,AV.lst true 1 [i0 va,i0 v]]] [z2,z1]∧hpL [eR 1048577 [0,0] 5 xs2,(1048578,{ id:=[1,0],obj:=AObj.row false 6 z4 })]=hpL [eR 1048577 [0,0] 5 xs2,(1048578,{ id:=[1,0],obj:=AObj.row false 6 z4 })])∧∃ (_:Unit),(P∧Wks [z2,i0 z6] [z2,i0 z6]∧hpL [eR 1048577 [0,0] 5 (xs2++[z1]),(1048578,{ id:=[1,0],obj:=AObj.row false 6 z3 })]=hpL [eR 1048577 [0,0] 5 (xs2++[z1]),(1048578,{ id:=[1,0],obj:=AObj.row false 6 z3 })])∧Ex.exit 0=Ex.exit 0∧Wk (AV.tup [i0 vr]) (AV.tup [i0 vr])∧SameH (hpL [eR 1048577 [0,1] 5 xr,(1048578,{ id:=[1,0],obj:=AObj.row false 6 (qVK112 ts kr dr xr badr plr) })]) (hpL [eR 1048577 [0,1] 5 xr,(1048578,{ id:=[1,0],obj:=AObj.row false 6 (qVK112 ts kr dr xr badr plr) })]))))))))):=by kernel_rfl
def ogLE8:Orc:=Orc.alt 0 (Orc.f (Orc.f (Orc.alt 1 (Orc.t (Orc.alt 1 (Orc.t Orc.z))))))
theorem gLE8_vc (P:Prop)(ts:List AV)(k d:Int)(xs:List AV)(va k2 d2:Int)(xs2:List AV)(bad2 pl2:Int)(v a:Int)(vr kr dr:Int)(xr:List AV)(badr plr:Int):gLE8 ogLE8 P ts k d xs va k2 d2 xs2 bad2 pl2 v a vr kr dr xr badr plr=(let z1:=AV.agg [i0 (3:Int),i0 a,i0 (0:Int),s0 ByteArray.empty,AV.lst false 1 [i0 va,i0 v]]; let z2:=AV.ptr 1048578 [1,0] 0 0; let z3:=eR 1048577 [0,0] 5 xs; let z4:=[AV.agg [AV.lst false 3 ts,i0 k2,i0 d2,AV.slc 1048577 [0,0] 0 (List.length (xs2++[z1])),i0 bad2,i0 pl2]]; let z5:=[AV.agg [AV.lst false 3 ts,i0 k2,i0 d2,AV.slc 1048577 [0,0] 0 (List.length xs2),i0 bad2,i0 pl2]]; let z6:=(qVK110 ts k d xs); let z7:=(↑(List.length xs2):Int); let z8:=[z2,i0 (8:Int)]; let z9:=(xHp 0 ts k d xs (0:Int) (0:Int)); U1 [z2,i0 (7:Int)] [z3,(1048578,{ id:=[1,0],obj:=AObj.row false 6 z6 })] (Nf (Nf (U1 z8 [z3,(1048578,{ id:=[1,0],obj:=AObj.row false 6 z6 })] (Yt ((decide ((0:Int)≤k∧k<(↑(List.length ts):Int))&&(Nat.beq 3 3&&(isShp (Cx.B (cxV (XQn (WX.add (WX.add (WX.add XB fXIs (Sp.con [spI (7:Int) false z9,spI (8:Int) true z9])) fXTerm (Sp.con [spV v (xHp 0 ts (k+(1:Int)) d xs (0:Int) (0:Int)) (xHp 1 ts k2 d2 xs2 bad2 pl2)])) fXAdd (Sp.con [spA (rgV (3:Int) a (0:Int) ByteArray.empty [i0 va,i0 v]) z7 (xHp 0 ts k2 d2 xs2 bad2 pl2) (xHp 1 ts k2 d2 (xs2++[rgV (3:Int) a (0:Int) ByteArray.empty [i0 va,i0 v]]) bad2 pl2)])) fXExpr [22,24]) 14 fXExpr)) shN 124 (List.getD ts (Int.toNat k) (AV.lit (Value.tuple { toList:=[] })))&&(true||false))))=true∧U1 z8 [z3,(1048578,{ id:=[1,0],obj:=AObj.row false 6 z6 })] (Yt (inR IntKind.i64 (k+(1:Int))=true∧U1 [z2] [z3,(1048578,{ id:=[1,0],obj:=AObj.row false 6 (qVK113 ts k d xs) })] (∃ (_:Unit),(True∧Wks [z2,AV.agg [i0 (3:Int),i0 (intA (nthA 1 (List.getD ts (Int.toNat k) (AV.lit (Value.tuple { toList:=[] }))))),i0 (0:Int),s0 ⟨⟨[]⟩⟩,AV.lst true 1 [i0 va,i0 v]]] [z2,z1]∧hpL [eR 1048577 [0,0] 5 xs2,(1048578,{ id:=[1,0],obj:=AObj.row false 6 z5 })]=hpL [eR 1048577 [0,0] 5 xs2,(1048578,{ id:=[1,0],obj:=AObj.row false 6 z5 })])∧∃ (_:Unit),(P∧Wks [z2,i0 z7] [z2,i0 z7]∧hpL [eR 1048577 [0,0] 5 (xs2++[z1]),(1048578,{ id:=[1,0],obj:=AObj.row false 6 z4 })]=hpL [eR 1048577 [0,0] 5 (xs2++[z1]),(1048578,{ id:=[1,0],obj:=AObj.row false 6 z4 })])∧Ex.exit 0=Ex.exit 0∧Wk (AV.tup [i0 vr]) (AV.tup [i0 vr])∧SameH (hpL [eR 1048577 [0,1] 5 xr,(1048578,{ id:=[1,0],obj:=AObj.row false 6 (qVK112 ts kr dr xr badr plr) })]) (hpL [eR 1048577 [0,1] 5 xr,(1048578,{ id:=[1,0],obj:=AObj.row false 6 (qVK112 ts kr dr xr badr plr) })])))))))))):=by kernel_rfl
theorem gFE_vc (ts:List AV)(k d:Int)(xs:List AV)(ka da:Int)(xsa:List AV)(bada pla:Int)(va vr:Int)(kr dr:Int)(xr:List AV)(badr plr:Int):gFE (Orc.z) ts k d xs ka da xsa bada pla va vr kr dr xr badr plr=(let z1:=[AV.agg [AV.lst false 3 ts,i0 ka,i0 da,AV.slc 1048577 [0,0] 0 (List.length xsa),i0 bada,i0 pla]]; let z2:=AV.ptr 1048578 [1,0] 0 0; U1 [z2] [eR 1048577 [0,0] 5 xs,(1048578,{ id:=[1,0],obj:=AObj.row false 6 (qVK110 ts k d xs) })] (U1 [z2,i0 va] [eR 1048577 [0,0] 5 xsa,(1048578,{ id:=[1,0],obj:=AObj.row false 6 z1 })] (Wk (i0 vr) (i0 vr)∧SameH (hpL [eR 1048577 [0,1] 5 xr,(1048578,{ id:=[1,0],obj:=AObj.row false 6 (qVK112 ts kr dr xr badr plr) })]) (hpL [eR 1048577 [0,1] 5 xr,(1048578,{ id:=[1,0],obj:=AObj.row false 6 (qVK112 ts kr dr xr badr plr) })])))):=by kernel_rfl
end Go.Proofs.YtpofhijgccocpaaGreatDoor
end
section
namespace Go.Proofs.YtpofhijgccocpaaGreatDoor
open Go.AS Go.TP
noncomputable section
def gAtON (os:Orc)(ts:List AV)(k d:Int)(xs:List AV)(bad' pl':Int):Prop :=
 runF (XQn ((XB.add fXIs (Sp.con [spI 2 true (xHp 0 ts k d xs 0 0)])).add fXDown (Sp.con [spD false (xHp 0 ts k d xs 0 0) (xHp 0 ts k d xs bad' pl')])) fXAtom [38,39,49,51,117,119]) 14 fXAtom (fn fXAtom) (code fXAtom) os 0 [] [xArg] (xHp 0 ts k d xs 0 0) ⟨i0 0,(xHp 0 ts k d xs bad' pl'),[1048577,1048578]⟩
def gAtOY (os:Orc)(ts:List AV)(k d:Int)(xs:List AV)(k1 k2 d2:Int)(xs2:List AV)(bad2 pl2 v:Int)(k3 bad3 pl3:Int)(b:Bool):Prop :=
 runF (XQn ((((XB.add fXIs (Sp.con [spI 2 true (xHp 0 ts k d xs 0 0)])).add fXDown (Sp.con [spD true (xHp 0 ts k d xs 0 0) (xHp 0 ts k1 (d+1) xs 0 0)])).add fXExpr (Sp.con [spV v (xHp 0 ts k1 (d+1) xs 0 0) (xHp 1 ts k2 d2 xs2 bad2 pl2)])).add fXWant (Sp.con [spX [i0 3] (xHp 0 ts k2 d2 xs2 bad2 pl2) ⟨b0 b,(xHp 0 ts k3 d2 xs2 bad3 pl3),[1048578]⟩])) fXAtom [38,39,49,51,117,119]) 14 fXAtom (fn fXAtom) (code fXAtom) os 0 [1048577] [xArg] (xHp 0 ts k d xs 0 0) ⟨i0 v,(xHp 1 ts k3 (d2-1) xs2 bad3 pl3),[1048577,1048578]⟩
def gAtX (os:Orc)(ts:List AV)(k d:Int)(xs:List AV)(bad' pl':Int):Prop :=
 runF (XQn ((XB.add fXIs (Sp.con [spI 2 false (xHp 0 ts k d xs 0 0),spI 1 false (xHp 0 ts k d xs 0 0)])).add fXFail (Sp.con [spX [i0 15] (xHp 0 ts k d xs 0 0) ⟨i0 0,(xHp 0 ts k d xs bad' pl'),[1048578]⟩])) fXAtom [38,39,49,51,117,119]) 14 fXAtom (fn fXAtom) (code fXAtom) os 0 [] [xArg] (xHp 0 ts k d xs 0 0) ⟨i0 0,(xHp 0 ts k d xs bad' pl'),[1048577,1048578]⟩
def gAtP0 (os:Orc)(ts:List AV)(k d:Int)(xs:List AV)(bad' pl':Int)(t:ByteArray):Prop :=
 runF (XQn (((XB.add fXIs (Sp.con [spI 2 false (xHp 0 ts k d xs 0 0),spI 1 true (xHp 0 ts k d xs 0 0)])).add fXIsPre (Sp.con [.pure Unit (fun _=>True) (fun _=>[s0 t]) (fun _=>b0 false)])).add fXFail (Sp.con [spX [i0 15] (xHp 0 ts k d xs 0 0) ⟨i0 0,(xHp 0 ts k d xs bad' pl'),[1048578]⟩])) fXAtom [38,39,49,51,117,119]) 14 fXAtom (fn fXAtom) (code fXAtom) os 0 [] [xArg] (xHp 0 ts k d xs 0 0) ⟨i0 0,(xHp 0 ts k d xs bad' pl'),[1048577,1048578]⟩
def gAtP1 (os:Orc)(ts:List AV)(k d:Int)(xs:List AV)(a:Int)(t:ByteArray):Prop :=
 runF (XQn (((XB.add fXIs (Sp.con [spI 2 false (xHp 0 ts k d xs 0 0),spI 1 true (xHp 0 ts k d xs 0 0)])).add fXIsPre (Sp.con [.pure Unit (fun _=>True) (fun _=>[s0 t]) (fun _=>b0 true)])).add fXAdd (Sp.con [spA (rgV 1 a 0 t []) xs.length (xHp 0 ts (k+1) d xs 0 0) (xHp 1 ts (k+1) d (xs++[(rgV 1 a 0 t [])]) 0 0)])) fXAtom [38,39,49,51,117,119]) 14 fXAtom (fn fXAtom) (code fXAtom) os 0 [1048577] [xArg] (xHp 0 ts k d xs 0 0) ⟨i0 xs.length,xHp 1 ts (k+1) d (xs++[(rgV 1 a 0 t [])]) 0 0,[1048577,1048578]⟩
def gAtC0 (os:Orc)(ts:List AV)(k d:Int)(xs:List AV)(bad' pl':Int)(t:ByteArray):Prop :=
 runF (XQn (((XB.add fXIs (Sp.con [spI 2 false (xHp 0 ts k d xs 0 0),spI 1 true (xHp 0 ts k d xs 0 0)])).add fXArgs (Sp.con [.pure Unit (fun _=>True) (fun _=>[s0 t]) (fun _ => .tup [i0 (-1),b0 false])])).add fXFail (Sp.con [spX [i0 15] (xHp 0 ts k d xs 0 0) ⟨i0 0,(xHp 0 ts k d xs bad' pl'),[1048578]⟩])) fXAtom [38,39,49,51,117,119]) 14 fXAtom (fn fXAtom) (code fXAtom) os 0 [] [xArg] (xHp 0 ts k d xs 0 0) ⟨i0 0,(xHp 0 ts k d xs bad' pl'),[1048577,1048578]⟩
def gAtCD (os:Orc)(ts:List AV)(k d:Int)(xs:List AV)(bad' pl':Int)(t:ByteArray)(n:Int)(b:Bool):Prop :=
 runF (XQn (((XB.add fXIs (Sp.con [spI 2 false (xHp 0 ts k d xs 0 0),spI 1 true (xHp 0 ts k d xs 0 0)])).add fXArgs (Sp.con [.pure Unit (fun _=>True) (fun _=>[s0 t]) (fun _ => .tup [i0 n,b0 b])])).add fXDown (Sp.con [spD false (xHp 0 ts (k+1) d xs 0 0) (xHp 0 ts (k+1) d xs bad' pl')])) fXAtom [38,39,49,51,117,119]) 14 fXAtom (fn fXAtom) (code fXAtom) os 0 [] [xArg] (xHp 0 ts k d xs 0 0) ⟨i0 0,(xHp 0 ts (k+1) d xs bad' pl'),[1048577,1048578]⟩
def gAtC1 (os:Orc)(ts:List AV)(k d:Int)(xs:List AV)(t:ByteArray)(a k1 k3 bad3 pl3:Int)(b:Bool):Prop :=
 runF (XQn (((((XB.add fXIs (Sp.con [spI 2 false (xHp 0 ts k d xs 0 0),spI 1 true (xHp 0 ts k d xs 0 0)])).add fXArgs (Sp.con [.pure Unit (fun _=>True) (fun _=>[s0 t]) (fun _ => .tup [i0 0,b0 false])])).add fXDown (Sp.con [spD true (xHp 0 ts (k+1) d xs 0 0) (xHp 0 ts k1 (d+1) xs 0 0)])).add fXWant (Sp.con [spX [i0 3] (xHp 0 ts k1 (d+1) xs 0 0) ⟨b0 b,(xHp 0 ts k3 (d+1) xs bad3 pl3),[1048578]⟩])).add fXAdd (Sp.con [spA (rgV 10 a 0 t []) xs.length (xHp 0 ts k3 (d+1-1) xs bad3 pl3) (xHp 1 ts k3 (d+1-1) (xs++[(rgV 10 a 0 t [])]) bad3 pl3)])) fXAtom [38,39,49,51,117,119]) 14 fXAtom (fn fXAtom) (code fXAtom) os 0 [1048577] [xArg] (xHp 0 ts k d xs 0 0) ⟨i0 xs.length,xHp 1 ts k3 (d+1-1) (xs++[(rgV 10 a 0 t [])]) bad3 pl3,[1048577,1048578]⟩
def gAtC2 (os:Orc)(ts:List AV)(k d:Int)(xs:List AV)(t:ByteArray)(a:Int)(k1 k2 d2:Int)(xs2:List AV)(bad2 pl2 v:Int)(k3 bad3 pl3:Int)(b:Bool):Prop :=
 runF (XQn ((((((XB.add fXIs (Sp.con [spI 2 false (xHp 0 ts k d xs 0 0),spI 1 true (xHp 0 ts k d xs 0 0)])).add fXArgs (Sp.con [.pure Unit (fun _=>True) (fun _=>[s0 t]) (fun _ => .tup [i0 1,b0 false])])).add fXDown (Sp.con [spD true (xHp 0 ts (k+1) d xs 0 0) (xHp 0 ts k1 (d+1) xs 0 0)])).add fXExpr (Sp.con [spV v (xHp 0 ts k1 (d+1) xs 0 0) (xHp 1 ts k2 d2 xs2 bad2 pl2)])).add fXWant (Sp.con [spX [i0 3] (xHp 0 ts k2 d2 xs2 bad2 pl2) ⟨b0 b,(xHp 0 ts k3 d2 xs2 bad3 pl3),[1048578]⟩])).add fXAdd (Sp.con [spA (rgV 10 a 0 t [i0 v]) xs2.length (xHp 0 ts k3 (d2-1) xs2 bad3 pl3) (xHp 1 ts k3 (d2-1) (xs2++[(rgV 10 a 0 t [i0 v])]) bad3 pl3)])) fXAtom [38,39,49,51,117,119]) 14 fXAtom (fn fXAtom) (code fXAtom) os 0 [1048577] [xArg] (xHp 0 ts k d xs 0 0) ⟨i0 xs2.length,xHp 1 ts k3 (d2-1) (xs2++[(rgV 10 a 0 t [i0 v])]) bad3 pl3,[1048577,1048578]⟩
def gAtC3X (os:Orc)(ts:List AV)(k d:Int)(xs:List AV)(t:ByteArray)(a:Int)(k1 k2 d2:Int)(xs2:List AV)(bad2 pl2 v:Int)(k3 bad3 pl3:Int)(k4 bad4 pl4:Int)(b:Bool):Prop :=
 runF (XQn ((((((XB.add fXIs (Sp.con [spI 2 false (xHp 0 ts k d xs 0 0),spI 1 true (xHp 0 ts k d xs 0 0)])).add fXArgs (Sp.con [.pure Unit (fun _=>True) (fun _=>[s0 t]) (fun _ => .tup [i0 1,b0 true])])).add fXDown (Sp.con [spD true (xHp 0 ts (k+1) d xs 0 0) (xHp 0 ts k1 (d+1) xs 0 0)])).add fXExpr (Sp.con [spV v (xHp 0 ts k1 (d+1) xs 0 0) (xHp 1 ts k2 d2 xs2 bad2 pl2)])).add fXWant (Sp.con [spX [i0 4] (xHp 0 ts k2 d2 xs2 bad2 pl2) ⟨b0 false,(xHp 0 ts k4 d2 xs2 bad4 pl4),[1048578]⟩,spX [i0 3] (xHp 0 ts k4 d2 xs2 bad4 pl4) ⟨b0 b,(xHp 0 ts k3 d2 xs2 bad3 pl3),[1048578]⟩])).add fXAdd (Sp.con [spA (rgV 10 a 0 t [i0 v]) xs2.length (xHp 0 ts k3 (d2-1) xs2 bad3 pl3) (xHp 1 ts k3 (d2-1) (xs2++[(rgV 10 a 0 t [i0 v])]) bad3 pl3)])) fXAtom [38,39,49,51,117,119]) 14 fXAtom (fn fXAtom) (code fXAtom) os 0 [1048577] [xArg] (xHp 0 ts k d xs 0 0) ⟨i0 xs2.length,xHp 1 ts k3 (d2-1) (xs2++[(rgV 10 a 0 t [i0 v])]) bad3 pl3,[1048577,1048578]⟩
def gAtC3F (os:Orc)(ts:List AV)(k d:Int)(xs:List AV)(t tn:ByteArray)(_ m:Int)(k1 k2 d2:Int)(xs2:List AV)(bad2 pl2 v:Int)(_ _ _:Int)(k4 bad' pl':Int):Prop :=
 runF (XQn (((((((XB.add fXIs (Sp.con [spI 2 false (xHp 0 ts k d xs 0 0),spI 1 true (xHp 0 ts k d xs 0 0),spI 1 false (xHp 0 ts k4 d2 xs2 0 0)])).add fXArgs (Sp.con [.pure Unit (fun _=>True) (fun _=>[s0 t]) (fun _ => .tup [i0 1,b0 true])])).add fXDown (Sp.con [spD true (xHp 0 ts (k+1) d xs 0 0) (xHp 0 ts k1 (d+1) xs 0 0)])).add fXExpr (Sp.con [spV v (xHp 0 ts k1 (d+1) xs 0 0) (xHp 1 ts k2 d2 xs2 bad2 pl2)])).add fXWant (Sp.con [spX [i0 4] (xHp 0 ts k2 d2 xs2 bad2 pl2) ⟨b0 true,(xHp 0 ts k4 d2 xs2 0 0),[1048578]⟩])).add fXNumber (Sp.con [.pure Unit (fun _=>True) (fun _=>[s0 tn]) (fun _=>i0 m)])).add fXFail (Sp.con [spX [i0 15] (xHp 0 ts k4 d2 xs2 0 0) ⟨i0 0,(xHp 0 ts k4 d2 xs2 bad' pl'),[1048578]⟩])) fXAtom [38,39,49,51,117,119]) 14 fXAtom (fn fXAtom) (code fXAtom) os 0 [1048577] [xArg] (xHp 0 ts k d xs 0 0) ⟨i0 0,(xHp 1 ts k4 d2 xs2 bad' pl'),[1048577,1048578]⟩
def gAtC3N (os:Orc)(ts:List AV)(k d:Int)(xs:List AV)(t tn:ByteArray)(_ m:Int)(k1 k2 d2:Int)(xs2:List AV)(bad2 pl2 v:Int)(_ _ _:Int)(k4 bad' pl':Int):Prop :=
 runF (XQn (((((((XB.add fXIs (Sp.con [spI 2 false (xHp 0 ts k d xs 0 0),spI 1 true (xHp 0 ts k d xs 0 0),spI 1 true (xHp 0 ts k4 d2 xs2 0 0)])).add fXArgs (Sp.con [.pure Unit (fun _=>True) (fun _=>[s0 t]) (fun _ => .tup [i0 1,b0 true])])).add fXDown (Sp.con [spD true (xHp 0 ts (k+1) d xs 0 0) (xHp 0 ts k1 (d+1) xs 0 0)])).add fXExpr (Sp.con [spV v (xHp 0 ts k1 (d+1) xs 0 0) (xHp 1 ts k2 d2 xs2 bad2 pl2)])).add fXWant (Sp.con [spX [i0 4] (xHp 0 ts k2 d2 xs2 bad2 pl2) ⟨b0 true,(xHp 0 ts k4 d2 xs2 0 0),[1048578]⟩])).add fXNumber (Sp.con [.pure Unit (fun _=>True) (fun _=>[s0 tn]) (fun _=>i0 m)])).add fXFail (Sp.con [spX [i0 15] (xHp 0 ts k4 d2 xs2 0 0) ⟨i0 0,(xHp 0 ts k4 d2 xs2 bad' pl'),[1048578]⟩])) fXAtom [38,39,49,51,117,119]) 14 fXAtom (fn fXAtom) (code fXAtom) os 0 [1048577] [xArg] (xHp 0 ts k d xs 0 0) ⟨i0 0,(xHp 1 ts k4 d2 xs2 bad' pl'),[1048577,1048578]⟩
def gAtC3Y (os:Orc)(ts:List AV)(k d:Int)(xs:List AV)(t tn:ByteArray)(a m:Int)(k1 k2 d2:Int)(xs2:List AV)(bad2 pl2 v:Int)(k3 bad3 pl3:Int)(k4:Int)(b:Bool):Prop :=
 runF (XQn (((((((XB.add fXIs (Sp.con [spI 2 false (xHp 0 ts k d xs 0 0),spI 1 true (xHp 0 ts k d xs 0 0),spI 1 true (xHp 0 ts k4 d2 xs2 0 0)])).add fXArgs (Sp.con [.pure Unit (fun _=>True) (fun _=>[s0 t]) (fun _ => .tup [i0 1,b0 true])])).add fXDown (Sp.con [spD true (xHp 0 ts (k+1) d xs 0 0) (xHp 0 ts k1 (d+1) xs 0 0)])).add fXExpr (Sp.con [spV v (xHp 0 ts k1 (d+1) xs 0 0) (xHp 1 ts k2 d2 xs2 bad2 pl2)])).add fXWant (Sp.con [spX [i0 4] (xHp 0 ts k2 d2 xs2 bad2 pl2) ⟨b0 true,(xHp 0 ts k4 d2 xs2 0 0),[1048578]⟩,spX [i0 3] (xHp 0 ts (k4+1) d2 xs2 0 0) ⟨b0 b,(xHp 0 ts k3 d2 xs2 bad3 pl3),[1048578]⟩])).add fXNumber (Sp.con [.pure Unit (fun _=>True) (fun _=>[s0 tn]) (fun _=>i0 m)])).add fXAdd (Sp.con [spA (rgV 10 a m t [i0 v]) xs2.length (xHp 0 ts k3 (d2-1) xs2 bad3 pl3) (xHp 1 ts k3 (d2-1) (xs2++[(rgV 10 a m t [i0 v])]) bad3 pl3)])) fXAtom [38,39,49,51,117,119]) 14 fXAtom (fn fXAtom) (code fXAtom) os 0 [1048577] [xArg] (xHp 0 ts k d xs 0 0) ⟨i0 xs2.length,xHp 1 ts k3 (d2-1) (xs2++[(rgV 10 a m t [i0 v])]) bad3 pl3,[1048577,1048578]⟩
end
end Go.Proofs.YtpofhijgccocpaaGreatDoor
end
section
namespace Go.Proofs.YtpofhijgccocpaaGreatDoor
open Go Go.AS Go.TP
noncomputable abbrev qVK90 (ts:List AV)(k:Int)(d:Int)(xs:List AV):=[AV.agg [AV.lst false 3 ts,i0 k,i0 d,AV.slc 1048577 [0,0] 0 (List.length xs),i0 (0:Int),i0 (0:Int)]]
noncomputable abbrev qVK91 (ts:List AV)(k:Int)(d:Int)(xs:List AV):=[AV.agg [AV.lst false 3 ts,i0 (k+(1:Int)),i0 d,AV.slc 1048577 [0,0] 0 (List.length xs),i0 (0:Int),i0 (0:Int)]]
noncomputable abbrev qVK92 (ts:List AV)(k:Int)(d:Int)(xs:List AV):=(WX.add XB fXIs (Sp.con [spI (2:Int) false (xHp 0 ts k d xs (0:Int) (0:Int)),spI (1:Int) true (xHp 0 ts k d xs (0:Int) (0:Int))]))
noncomputable abbrev qVK93 (ts:List AV)(k:Int)(d:Int)(xs:List AV)(k1:Int):=(Sp.con [spD true (xHp 0 ts (k+(1:Int)) d xs (0:Int) (0:Int)) (xHp 0 ts k1 (d+(1:Int)) xs (0:Int) (0:Int))])
noncomputable abbrev qVK94 (ts:List AV)(k1:Int)(d:Int)(xs:List AV):=[AV.agg [AV.lst false 3 ts,i0 k1,i0 (d+(1:Int)),AV.slc 1048577 [0,0] 0 (List.length xs),i0 (0:Int),i0 (0:Int)]]
noncomputable abbrev qVK95 (ts:List AV)(k:Int)(d:Int)(xs:List AV)(k4:Int)(d2:Int)(xs2:List AV):=(WX.add XB fXIs (Sp.con [spI (2:Int) false (xHp 0 ts k d xs (0:Int) (0:Int)),spI (1:Int) true (xHp 0 ts k d xs (0:Int) (0:Int)),spI (1:Int) true (xHp 0 ts k4 d2 xs2 (0:Int) (0:Int))]))
noncomputable abbrev qVK96 (ts:List AV)(k4:Int)(d2:Int)(xs2:List AV):=[AV.agg [AV.lst false 3 ts,i0 k4,i0 d2,AV.slc 1048577 [0,0] 0 (List.length xs2),i0 (0:Int),i0 (0:Int)]]
noncomputable abbrev qVK97:=[AV.ptr 1048578 [1,0] 0 0,i0 (2:Int)]
noncomputable abbrev qVK98:=[AV.ptr 1048578 [1,0] 0 0,i0 (1:Int)]
theorem gAtON_vc (ts:List AV)(k d:Int)(xs:List AV)(bad' pl':Int):gAtON (Orc.t (Orc.t Orc.z)) ts k d xs bad' pl'=(let z1:=[AV.agg [AV.lst false 3 ts,i0 k,i0 d,AV.slc 1048577 [0,0] 0 (List.length xs),i0 bad',i0 pl']]; let z2:=eR 1048577 [0,0] 5 xs; let z3:=(qVK90 ts k d xs); U1 (qVK97) [z2,(1048578,{ id:=[1,0],obj:=AObj.row false 6 z3 })] (Yt (U1 [AV.ptr 1048578 [1,0] 0 0] [z2,(1048578,{ id:=[1,0],obj:=AObj.row false 6 z3 })] (Yt (Wk (i0 (0:Int)) (i0 (0:Int))∧SameH (hpL [z2,(1048578,{ id:=[1,0],obj:=AObj.row false 6 z1 })]) (hpL [z2,(1048578,{ id:=[1,0],obj:=AObj.row false 6 z1 })])))))):=by kernel_rfl
theorem gAtOY_vc (ts:List AV)(k d:Int)(xs:List AV)(k1 k2 d2:Int)(xs2:List AV)(bad2 pl2:Int)(v k3:Int)(bad3 pl3:Int)(b:Bool):gAtOY (Orc.t (Orc.f Orc.z)) ts k d xs k1 k2 d2 xs2 bad2 pl2 v k3 bad3 pl3 b=(let z1:=[AV.agg [AV.lst false 3 ts,i0 k3,i0 (d2-(1:Int)),AV.slc 1048577 [0,1] 0 (List.length xs2),i0 bad3,i0 pl3]]; let z2:=AV.ptr 1048578 [1,0] 0 0; let z3:=[AV.agg [AV.lst false 3 ts,i0 k2,i0 d2,AV.slc 1048577 [0,0] 0 (List.length xs2),i0 bad2,i0 pl2]]; let z4:=eR 1048577 [0,0] 5 xs; let z5:=(qVK90 ts k d xs); U1 (qVK97) [z4,(1048578,{ id:=[1,0],obj:=AObj.row false 6 z5 })] (Yt (U1 [z2] [z4,(1048578,{ id:=[1,0],obj:=AObj.row false 6 z5 })] (Nf (U1 [z2] [z4,(1048578,{ id:=[1,0],obj:=AObj.row false 6 (qVK94 ts k1 d xs) })] (U1 [z2,i0 (3:Int)] [eR 1048577 [0,0] 5 xs2,(1048578,{ id:=[1,0],obj:=AObj.row false 6 z3 })] (inR IntKind.i64 (d2-(1:Int))=true∧Wk (i0 v) (i0 v)∧SameH (hpL [eR 1048577 [0,1] 5 xs2,(1048578,{ id:=[1,0],obj:=AObj.row false 6 z1 })]) (hpL [eR 1048577 [0,1] 5 xs2,(1048578,{ id:=[1,0],obj:=AObj.row false 6 z1 })])))))))):=by kernel_rfl
theorem gAtX_vc (ts:List AV)(k d:Int)(xs:List AV)(bad' pl':Int):gAtX (Orc.alt 0 (Orc.f (Orc.alt 1 (Orc.t Orc.z)))) ts k d xs bad' pl'=(let z1:=eR 1048577 [0,0] 5 xs; let z2:=[AV.agg [AV.lst false 3 ts,i0 k,i0 d,AV.slc 1048577 [0,0] 0 (List.length xs),i0 bad',i0 pl']]; let z3:=(qVK90 ts k d xs); let z4:=[AV.ptr 1048578 [1,0] 0 0,i0 (15:Int)]; U1 (qVK97) [z1,(1048578,{ id:=[1,0],obj:=AObj.row false 6 z3 })] (Nf (U1 (qVK98) [z1,(1048578,{ id:=[1,0],obj:=AObj.row false 6 z3 })] (Yt (U1 z4 [z1,(1048578,{ id:=[1,0],obj:=AObj.row false 6 z3 })] (Wk (i0 (0:Int)) (i0 (0:Int))∧SameH (hpL [z1,(1048578,{ id:=[1,0],obj:=AObj.row false 6 z2 })]) (hpL [z1,(1048578,{ id:=[1,0],obj:=AObj.row false 6 z2 })]))))))):=by kernel_rfl
theorem gAtP0_vc (ts:List AV)(k d:Int)(xs:List AV)(bad' pl':Int)(t:ByteArray):gAtP0 (Orc.alt 0 (Orc.f (Orc.alt 1 (Orc.f (Orc.t (Orc.t Orc.z)))))) ts k d xs bad' pl' t=(let z1:=eR 1048577 [0,0] 5 xs; let z2:=[AV.agg [AV.lst false 3 ts,i0 k,i0 d,AV.slc 1048577 [0,0] 0 (List.length xs),i0 bad',i0 pl']]; let z3:=(qVK90 ts k d xs); let z4:=[AV.ptr 1048578 [1,0] 0 0,i0 (15:Int)]; let z5:=(xHp 0 ts k d xs (0:Int) (0:Int)); U1 (qVK97) [z1,(1048578,{ id:=[1,0],obj:=AObj.row false 6 z3 })] (Nf (U1 (qVK98) [z1,(1048578,{ id:=[1,0],obj:=AObj.row false 6 z3 })] (Nf ((decide ((0:Int)≤k∧k<(↑(List.length ts):Int))&&(Nat.beq 3 3&&(isShp (Cx.B (cxV (XQn (WX.add (WX.add (qVK92 ts k d xs) fXIsPre (Sp.con [Sp.pure Unit (fun (_:Unit)=>True) (fun (_:Unit)=>[s0 t]) fun (_:Unit)=>b0 false])) fXFail (Sp.con [spX [i0 (15:Int)] z5 { x:=i0 (0:Int),σ:=xHp 0 ts k d xs bad' pl',ws:=[1048578] }])) fXAtom [38,39,49,51,117,119]) 14 fXAtom)) shN 124 (List.getD ts (Int.toNat k) (AV.lit (Value.tuple { toList:=[] })))&&(true||false))))=true∧inR IntKind.i64 (k+(1:Int))=true∧(decide ((0:Int)≤k+(1:Int)∧k+(1:Int)<(↑(List.length ts):Int))&&(Nat.beq 3 3&&(isShp (Cx.B (cxV (XQn (WX.add (WX.add (qVK92 ts k d xs) fXIsPre (Sp.con [Sp.pure Unit (fun (_:Unit)=>True) (fun (_:Unit)=>[s0 t]) fun (_:Unit)=>b0 false])) fXFail (Sp.con [spX [i0 (15:Int)] z5 { x:=i0 (0:Int),σ:=xHp 0 ts k d xs bad' pl',ws:=[1048578] }])) fXAtom [38,39,49,51,117,119]) 14 fXAtom)) shN 124 (List.getD ts (Int.toNat (k+(1:Int))) (AV.lit (Value.tuple { toList:=[] })))&&(true||false))))=true∧(intA (nthA 0 (List.getD ts (Int.toNat (k+(1:Int))) (AV.lit (Value.tuple { toList:=[] })))) != (2:Int))=true∧∃ (_:Unit),(True∧Wks [s0 (strA (nthA 2 (List.getD ts (Int.toNat k) (AV.lit (Value.tuple { toList:=[] })))))] [s0 t]∧hpL []=hpL [])∧Yt (U1 z4 [z1,(1048578,{ id:=[1,0],obj:=AObj.row false 6 z3 })] (Wk (i0 (0:Int)) (i0 (0:Int))∧SameH (hpL [z1,(1048578,{ id:=[1,0],obj:=AObj.row false 6 z2 })]) (hpL [z1,(1048578,{ id:=[1,0],obj:=AObj.row false 6 z2 })])))))))):=by kernel_rfl
theorem gAtP1_vc (ts:List AV)(k d:Int)(xs:List AV)(a:Int)(t:ByteArray):gAtP1 (Orc.alt 0 (Orc.f (Orc.alt 1 (Orc.f (Orc.t (Orc.f Orc.z)))))) ts k d xs a t=(let z1:=AV.agg [i0 (1:Int),i0 a,i0 (0:Int),s0 t,AV.lst false 1 []]; let z2:=(Sp.con [spA (rgV (1:Int) a (0:Int) t []) (↑(List.length xs):Int) (xHp 0 ts (k+(1:Int)) d xs (0:Int) (0:Int)) (xHp 1 ts (k+(1:Int)) d (xs++[rgV (1:Int) a (0:Int) t []]) (0:Int) (0:Int))]); let z3:=[AV.agg [AV.lst false 3 ts,i0 (k+(1:Int)),i0 d,AV.slc 1048577 [0,1] 0 (List.length (xs++[z1])),i0 (0:Int),i0 (0:Int)]]; let z4:=eR 1048577 [0,0] 5 xs; let z5:=(qVK90 ts k d xs); let z6:=(k+(1:Int)); U1 (qVK97) [z4,(1048578,{ id:=[1,0],obj:=AObj.row false 6 z5 })] (Nf (U1 (qVK98) [z4,(1048578,{ id:=[1,0],obj:=AObj.row false 6 z5 })] (Nf ((decide ((0:Int)≤k∧k<(↑(List.length ts):Int))&&(Nat.beq 3 3&&(isShp (Cx.B (cxV (XQn (WX.add (WX.add (qVK92 ts k d xs) fXIsPre (Sp.con [Sp.pure Unit (fun (_:Unit)=>True) (fun (_:Unit)=>[s0 t]) fun (_:Unit)=>b0 true])) fXAdd z2) fXAtom [38,39,49,51,117,119]) 14 fXAtom)) shN 124 (List.getD ts (Int.toNat k) (AV.lit (Value.tuple { toList:=[] })))&&(true||false))))=true∧inR IntKind.i64 z6=true∧(decide ((0:Int)≤k+(1:Int)∧k+(1:Int)<(↑(List.length ts):Int))&&(Nat.beq 3 3&&(isShp (Cx.B (cxV (XQn (WX.add (WX.add (qVK92 ts k d xs) fXIsPre (Sp.con [Sp.pure Unit (fun (_:Unit)=>True) (fun (_:Unit)=>[s0 t]) fun (_:Unit)=>b0 true])) fXAdd z2) fXAtom [38,39,49,51,117,119]) 14 fXAtom)) shN 124 (List.getD ts (Int.toNat z6) (AV.lit (Value.tuple { toList:=[] })))&&(true||false))))=true∧(intA (nthA 0 (List.getD ts (Int.toNat z6) (AV.lit (Value.tuple { toList:=[] })))) != (2:Int))=true∧∃ (_:Unit),(True∧Wks [s0 (strA (nthA 2 (List.getD ts (Int.toNat k) (AV.lit (Value.tuple { toList:=[] })))))] [s0 t]∧hpL []=hpL [])∧Nf (inR IntKind.i64 z6=true∧∃ (_:Unit),(True∧Wks [AV.ptr 1048578 [1,0] 0 0,AV.agg [i0 (1:Int),i0 (intA (nthA 1 (List.getD ts (Int.toNat k) (AV.lit (Value.tuple { toList:=[] }))))),i0 (0:Int),s0 (strA (nthA 2 (List.getD ts (Int.toNat k) (AV.lit (Value.tuple { toList:=[] }))))),AV.lit (Value.slice none 0 0)]] [AV.ptr 1048578 [1,0] 0 0,z1]∧hpL [z4,(1048578,{ id:=[1,0],obj:=AObj.row false 6 (qVK91 ts k d xs) })]=hpL [z4,(1048578,{ id:=[1,0],obj:=AObj.row false 6 (qVK91 ts k d xs) })])∧Wk (i0 (↑(List.length xs):Int)) (i0 (↑(List.length xs):Int))∧SameH (hpL [eR 1048577 [0,1] 5 (xs++[z1]),(1048578,{ id:=[1,0],obj:=AObj.row false 6 z3 })]) (hpL [eR 1048577 [0,1] 5 (xs++[z1]),(1048578,{ id:=[1,0],obj:=AObj.row false 6 z3 })]))))))):=by kernel_rfl
theorem gAtC0_vc (ts:List AV)(k d:Int)(xs:List AV)(bad' pl':Int)(t:ByteArray):gAtC0 (Orc.alt 0 (Orc.f (Orc.alt 1 (Orc.f (Orc.f (Orc.t Orc.z)))))) ts k d xs bad' pl' t=(let z1:=eR 1048577 [0,0] 5 xs; let z2:=[AV.agg [AV.lst false 3 ts,i0 k,i0 d,AV.slc 1048577 [0,0] 0 (List.length xs),i0 bad',i0 pl']]; let z3:=(qVK90 ts k d xs); let z4:=[AV.ptr 1048578 [1,0] 0 0,i0 (15:Int)]; let z5:=(xHp 0 ts k d xs (0:Int) (0:Int)); U1 (qVK97) [z1,(1048578,{ id:=[1,0],obj:=AObj.row false 6 z3 })] (Nf (U1 (qVK98) [z1,(1048578,{ id:=[1,0],obj:=AObj.row false 6 z3 })] (Nf ((decide ((0:Int)≤k∧k<(↑(List.length ts):Int))&&(Nat.beq 3 3&&(isShp (Cx.B (cxV (XQn (WX.add (WX.add (qVK92 ts k d xs) fXArgs (Sp.con [Sp.pure Unit (fun (_:Unit)=>True) (fun (_:Unit)=>[s0 t]) fun (_:Unit)=>AV.tup [i0 (-1:Int),b0 false]])) fXFail (Sp.con [spX [i0 (15:Int)] z5 { x:=i0 (0:Int),σ:=xHp 0 ts k d xs bad' pl',ws:=[1048578] }])) fXAtom [38,39,49,51,117,119]) 14 fXAtom)) shN 124 (List.getD ts (Int.toNat k) (AV.lit (Value.tuple { toList:=[] })))&&(true||false))))=true∧inR IntKind.i64 (k+(1:Int))=true∧(decide ((0:Int)≤k+(1:Int)∧k+(1:Int)<(↑(List.length ts):Int))&&(Nat.beq 3 3&&(isShp (Cx.B (cxV (XQn (WX.add (WX.add (qVK92 ts k d xs) fXArgs (Sp.con [Sp.pure Unit (fun (_:Unit)=>True) (fun (_:Unit)=>[s0 t]) fun (_:Unit)=>AV.tup [i0 (-1:Int),b0 false]])) fXFail (Sp.con [spX [i0 (15:Int)] z5 { x:=i0 (0:Int),σ:=xHp 0 ts k d xs bad' pl',ws:=[1048578] }])) fXAtom [38,39,49,51,117,119]) 14 fXAtom)) shN 124 (List.getD ts (Int.toNat (k+(1:Int))) (AV.lit (Value.tuple { toList:=[] })))&&(true||false))))=true∧(intA (nthA 0 (List.getD ts (Int.toNat (k+(1:Int))) (AV.lit (Value.tuple { toList:=[] })))) != (2:Int))=false∧∃ (_:Unit),(True∧Wks [s0 (strA (nthA 2 (List.getD ts (Int.toNat k) (AV.lit (Value.tuple { toList:=[] })))))] [s0 t]∧hpL []=hpL [])∧Yt (U1 z4 [z1,(1048578,{ id:=[1,0],obj:=AObj.row false 6 z3 })] (Wk (i0 (0:Int)) (i0 (0:Int))∧SameH (hpL [z1,(1048578,{ id:=[1,0],obj:=AObj.row false 6 z2 })]) (hpL [z1,(1048578,{ id:=[1,0],obj:=AObj.row false 6 z2 })])))))))):=by kernel_rfl
theorem gAtCD_vc (ts:List AV)(k d:Int)(xs:List AV)(bad' pl':Int)(t:ByteArray)(n:Int)(b:Bool):gAtCD (Orc.alt 0 (Orc.f (Orc.alt 1 (Orc.f (Orc.f (Orc.f (Orc.t Orc.z))))))) ts k d xs bad' pl' t n b=(let z1:=eR 1048577 [0,0] 5 xs; let z2:=(Sp.con [spD false (xHp 0 ts (k+(1:Int)) d xs (0:Int) (0:Int)) (xHp 0 ts (k+(1:Int)) d xs bad' pl')]); let z3:=[AV.agg [AV.lst false 3 ts,i0 (k+(1:Int)),i0 d,AV.slc 1048577 [0,0] 0 (List.length xs),i0 bad',i0 pl']]; let z4:=(qVK90 ts k d xs); let z5:=(k+(1:Int)); U1 (qVK97) [z1,(1048578,{ id:=[1,0],obj:=AObj.row false 6 z4 })] (Nf (U1 (qVK98) [z1,(1048578,{ id:=[1,0],obj:=AObj.row false 6 z4 })] (Nf ((decide ((0:Int)≤k∧k<(↑(List.length ts):Int))&&(Nat.beq 3 3&&(isShp (Cx.B (cxV (XQn (WX.add (WX.add (qVK92 ts k d xs) fXArgs (Sp.con [Sp.pure Unit (fun (_:Unit)=>True) (fun (_:Unit)=>[s0 t]) fun (_:Unit)=>AV.tup [i0 n,b0 b]])) fXDown z2) fXAtom [38,39,49,51,117,119]) 14 fXAtom)) shN 124 (List.getD ts (Int.toNat k) (AV.lit (Value.tuple { toList:=[] })))&&(true||false))))=true∧inR IntKind.i64 z5=true∧(decide ((0:Int)≤k+(1:Int)∧k+(1:Int)<(↑(List.length ts):Int))&&(Nat.beq 3 3&&(isShp (Cx.B (cxV (XQn (WX.add (WX.add (qVK92 ts k d xs) fXArgs (Sp.con [Sp.pure Unit (fun (_:Unit)=>True) (fun (_:Unit)=>[s0 t]) fun (_:Unit)=>AV.tup [i0 n,b0 b]])) fXDown z2) fXAtom [38,39,49,51,117,119]) 14 fXAtom)) shN 124 (List.getD ts (Int.toNat z5) (AV.lit (Value.tuple { toList:=[] })))&&(true||false))))=true∧(intA (nthA 0 (List.getD ts (Int.toNat z5) (AV.lit (Value.tuple { toList:=[] })))) != (2:Int))=false∧∃ (_:Unit),(True∧Wks [s0 (strA (nthA 2 (List.getD ts (Int.toNat k) (AV.lit (Value.tuple { toList:=[] })))))] [s0 t]∧hpL []=hpL [])∧decide (n<(0:Int))=false∧inR IntKind.i64 z5=true∧U1 [AV.ptr 1048578 [1,0] 0 0] [z1,(1048578,{ id:=[1,0],obj:=AObj.row false 6 (qVK91 ts k d xs) })] (Yt (Wk (i0 (0:Int)) (i0 (0:Int))∧SameH (hpL [z1,(1048578,{ id:=[1,0],obj:=AObj.row false 6 z3 })]) (hpL [z1,(1048578,{ id:=[1,0],obj:=AObj.row false 6 z3 })])))))))):=by kernel_rfl
theorem gAtC1_vc (ts:List AV)(k d:Int)(xs:List AV)(t:ByteArray)(a k1:Int)(k3 bad3 pl3:Int)(b:Bool):gAtC1 (Orc.alt 0 (Orc.f (Orc.alt 1 (Orc.f (Orc.f (Orc.f (Orc.f (Orc.f (Orc.f (Orc.f (Orc.f Orc.z))))))))))) ts k d xs t a k1 k3 bad3 pl3 b=(let z1:=AV.agg [i0 (10:Int),i0 a,i0 (0:Int),s0 t,AV.lst false 1 []]; let z2:=(Sp.con [spA (rgV (10:Int) a (0:Int) t []) (↑(List.length xs):Int) (xHp 0 ts k3 (d+(1:Int)-(1:Int)) xs bad3 pl3) (xHp 1 ts k3 (d+(1:Int)-(1:Int)) (xs++[rgV (10:Int) a (0:Int) t []]) bad3 pl3)]); let z3:=eR 1048577 [0,0] 5 xs; let z4:=[AV.agg [AV.lst false 3 ts,i0 k3,i0 (d+(1:Int)-(1:Int)),AV.slc 1048577 [0,1] 0 (List.length (xs++[z1])),i0 bad3,i0 pl3]]; let z5:=[AV.agg [AV.lst false 3 ts,i0 k3,i0 (d+(1:Int)-(1:Int)),AV.slc 1048577 [0,0] 0 (List.length xs),i0 bad3,i0 pl3]]; let z6:=AV.ptr 1048578 [1,0] 0 0; let z7:=(xHp 0 ts k1 (d+(1:Int)) xs (0:Int) (0:Int)); let z8:=(qVK90 ts k d xs); let z9:=(k+(1:Int)); U1 (qVK97) [z3,(1048578,{ id:=[1,0],obj:=AObj.row false 6 z8 })] (Nf (U1 (qVK98) [z3,(1048578,{ id:=[1,0],obj:=AObj.row false 6 z8 })] (Nf ((decide ((0:Int)≤k∧k<(↑(List.length ts):Int))&&(Nat.beq 3 3&&(isShp (Cx.B (cxV (XQn (WX.add (WX.add (WX.add (WX.add (qVK92 ts k d xs) fXArgs (Sp.con [Sp.pure Unit (fun (_:Unit)=>True) (fun (_:Unit)=>[s0 t]) fun (_:Unit)=>AV.tup [i0 (0:Int),b0 false]])) fXDown (qVK93 ts k d xs k1)) fXWant (Sp.con [spX [i0 (3:Int)] z7 { x:=b0 b,σ:=xHp 0 ts k3 (d+(1:Int)) xs bad3 pl3,ws:=[1048578] }])) fXAdd z2) fXAtom [38,39,49,51,117,119]) 14 fXAtom)) shN 124 (List.getD ts (Int.toNat k) (AV.lit (Value.tuple { toList:=[] })))&&(true||false))))=true∧inR IntKind.i64 z9=true∧(decide ((0:Int)≤k+(1:Int)∧k+(1:Int)<(↑(List.length ts):Int))&&(Nat.beq 3 3&&(isShp (Cx.B (cxV (XQn (WX.add (WX.add (WX.add (WX.add (qVK92 ts k d xs) fXArgs (Sp.con [Sp.pure Unit (fun (_:Unit)=>True) (fun (_:Unit)=>[s0 t]) fun (_:Unit)=>AV.tup [i0 (0:Int),b0 false]])) fXDown (qVK93 ts k d xs k1)) fXWant (Sp.con [spX [i0 (3:Int)] z7 { x:=b0 b,σ:=xHp 0 ts k3 (d+(1:Int)) xs bad3 pl3,ws:=[1048578] }])) fXAdd z2) fXAtom [38,39,49,51,117,119]) 14 fXAtom)) shN 124 (List.getD ts (Int.toNat z9) (AV.lit (Value.tuple { toList:=[] })))&&(true||false))))=true∧(intA (nthA 0 (List.getD ts (Int.toNat z9) (AV.lit (Value.tuple { toList:=[] })))) != (2:Int))=false∧∃ (_:Unit),(True∧Wks [s0 (strA (nthA 2 (List.getD ts (Int.toNat k) (AV.lit (Value.tuple { toList:=[] })))))] [s0 t]∧hpL []=hpL [])∧Nf (inR IntKind.i64 z9=true∧U1 [z6] [z3,(1048578,{ id:=[1,0],obj:=AObj.row false 6 (qVK91 ts k d xs) })] (Nf4 (Nf (U1 [z6,i0 (3:Int)] [z3,(1048578,{ id:=[1,0],obj:=AObj.row false 6 (qVK94 ts k1 d xs) })] (inR IntKind.i64 (d+(1:Int)-(1:Int))=true∧∃ (_:Unit),(True∧Wks [z6,AV.agg [i0 (10:Int),i0 (intA (nthA 1 (List.getD ts (Int.toNat k) (AV.lit (Value.tuple { toList:=[] }))))),i0 (0:Int),s0 (strA (nthA 2 (List.getD ts (Int.toNat k) (AV.lit (Value.tuple { toList:=[] }))))),AV.lit (Value.slice none 0 0)]] [z6,z1]∧hpL [z3,(1048578,{ id:=[1,0],obj:=AObj.row false 6 z5 })]=hpL [z3,(1048578,{ id:=[1,0],obj:=AObj.row false 6 z5 })])∧Wk (i0 (↑(List.length xs):Int)) (i0 (↑(List.length xs):Int))∧SameH (hpL [eR 1048577 [0,1] 5 (xs++[z1]),(1048578,{ id:=[1,0],obj:=AObj.row false 6 z4 })]) (hpL [eR 1048577 [0,1] 5 (xs++[z1]),(1048578,{ id:=[1,0],obj:=AObj.row false 6 z4 })]))))))))))):=by kernel_rfl
theorem gAtC2_vc (ts:List AV)(k d:Int)(xs:List AV)(t:ByteArray)(a k1:Int)(k2 d2:Int)(xs2:List AV)(bad2 pl2:Int)(v k3:Int)(bad3 pl3:Int)(b:Bool):gAtC2 (Orc.alt 0 (Orc.f (Orc.alt 1 (Orc.f (Orc.f (Orc.f (Orc.f (Orc.t (Orc.f (Orc.f (Orc.f Orc.z))))))))))) ts k d xs t a k1 k2 d2 xs2 bad2 pl2 v k3 bad3 pl3 b=(let z1:=[AV.agg [AV.lst false 3 ts,i0 k,i0 d,AV.slc 1048577 [0,0] 0 (List.length xs),i0 (0:Int),i0 (0:Int)]]; let z2:=AV.agg [i0 (10:Int),i0 a,i0 (0:Int),s0 t,AV.lst false 1 [i0 v]]; let z3:=AV.ptr 1048578 [1,0] 0 0; let z4:=(Sp.con [spA (rgV (10:Int) a (0:Int) t [i0 v]) (↑(List.length xs2):Int) (xHp 0 ts k3 (d2-(1:Int)) xs2 bad3 pl3) (xHp 1 ts k3 (d2-(1:Int)) (xs2++[rgV (10:Int) a (0:Int) t [i0 v]]) bad3 pl3)]); let z5:=(xHp 0 ts k1 (d+(1:Int)) xs (0:Int) (0:Int)); let z6:=(WX.add XB fXIs (Sp.con [spI (2:Int) false (xHp 0 ts k d xs (0:Int) (0:Int)),spI (1:Int) true (xHp 0 ts k d xs (0:Int) (0:Int))])); let z7:=eR 1048577 [0,0] 5 xs; let z8:=[AV.agg [AV.lst false 3 ts,i0 k3,i0 (d2-(1:Int)),AV.slc 1048577 [0,1] 0 (List.length (xs2++[z2])),i0 bad3,i0 pl3]]; let z9:=[AV.agg [AV.lst false 3 ts,i0 k1,i0 (d+(1:Int)),AV.slc 1048577 [0,0] 0 (List.length xs),i0 (0:Int),i0 (0:Int)]]; let z10:=[AV.agg [AV.lst false 3 ts,i0 (k+(1:Int)),i0 d,AV.slc 1048577 [0,0] 0 (List.length xs),i0 (0:Int),i0 (0:Int)]]; let z11:=[AV.agg [AV.lst false 3 ts,i0 k3,i0 (d2-(1:Int)),AV.slc 1048577 [0,0] 0 (List.length xs2),i0 bad3,i0 pl3]]; let z12:=[AV.agg [AV.lst false 3 ts,i0 k2,i0 d2,AV.slc 1048577 [0,0] 0 (List.length xs2),i0 bad2,i0 pl2]]; let z13:=(Sp.con [spD true (xHp 0 ts (k+(1:Int)) d xs (0:Int) (0:Int)) z5]); let z14:=eR 1048577 [0,0] 5 xs2; let z15:=(Sp.con [spV v z5 (xHp 1 ts k2 d2 xs2 bad2 pl2)]); let z16:=(k+(1:Int)); U1 [z3,i0 (2:Int)] [z7,(1048578,{ id:=[1,0],obj:=AObj.row false 6 z1 })] (Nf (U1 [z3,i0 (1:Int)] [z7,(1048578,{ id:=[1,0],obj:=AObj.row false 6 z1 })] (Nf ((decide ((0:Int)≤k∧k<(↑(List.length ts):Int))&&(Nat.beq 3 3&&(isShp (Cx.B (cxV (XQn (WX.add (WX.add (WX.add (WX.add (WX.add z6 fXArgs (Sp.con [Sp.pure Unit (fun (_:Unit)=>True) (fun (_:Unit)=>[s0 t]) fun (_:Unit)=>AV.tup [i0 (1:Int),b0 false]])) fXDown z13) fXExpr z15) fXWant (Sp.con [spX [i0 (3:Int)] (xHp 0 ts k2 d2 xs2 bad2 pl2) { x:=b0 b,σ:=xHp 0 ts k3 d2 xs2 bad3 pl3,ws:=[1048578] }])) fXAdd z4) fXAtom [38,39,49,51,117,119]) 14 fXAtom)) shN 124 (List.getD ts (Int.toNat k) (AV.lit (Value.tuple { toList:=[] })))&&(true||false))))=true∧inR IntKind.i64 z16=true∧(decide ((0:Int)≤k+(1:Int)∧k+(1:Int)<(↑(List.length ts):Int))&&(Nat.beq 3 3&&(isShp (Cx.B (cxV (XQn (WX.add (WX.add (WX.add (WX.add (WX.add z6 fXArgs (Sp.con [Sp.pure Unit (fun (_:Unit)=>True) (fun (_:Unit)=>[s0 t]) fun (_:Unit)=>AV.tup [i0 (1:Int),b0 false]])) fXDown z13) fXExpr z15) fXWant (Sp.con [spX [i0 (3:Int)] (xHp 0 ts k2 d2 xs2 bad2 pl2) { x:=b0 b,σ:=xHp 0 ts k3 d2 xs2 bad3 pl3,ws:=[1048578] }])) fXAdd z4) fXAtom [38,39,49,51,117,119]) 14 fXAtom)) shN 124 (List.getD ts (Int.toNat z16) (AV.lit (Value.tuple { toList:=[] })))&&(true||false))))=true∧(intA (nthA 0 (List.getD ts (Int.toNat z16) (AV.lit (Value.tuple { toList:=[] })))) != (2:Int))=false∧∃ (_:Unit),(True∧Wks [s0 (strA (nthA 2 (List.getD ts (Int.toNat k) (AV.lit (Value.tuple { toList:=[] })))))] [s0 t]∧hpL []=hpL [])∧Nf (inR IntKind.i64 z16=true∧U1 [z3] [z7,(1048578,{ id:=[1,0],obj:=AObj.row false 6 z10 })] (Nf (Yt (U1 [z3] [z7,(1048578,{ id:=[1,0],obj:=AObj.row false 6 z9 })] (Nf (Nf (Nf (U1 [z3,i0 (3:Int)] [z14,(1048578,{ id:=[1,0],obj:=AObj.row false 6 z12 })] (inR IntKind.i64 (d2-(1:Int))=true∧∃ (_:Unit),(True∧Wks [z3,AV.agg [i0 (10:Int),i0 (intA (nthA 1 (List.getD ts (Int.toNat k) (AV.lit (Value.tuple { toList:=[] }))))),i0 (0:Int),s0 (strA (nthA 2 (List.getD ts (Int.toNat k) (AV.lit (Value.tuple { toList:=[] }))))),AV.lst true 1 [i0 v]]] [z3,z2]∧hpL [z14,(1048578,{ id:=[1,0],obj:=AObj.row false 6 z11 })]=hpL [z14,(1048578,{ id:=[1,0],obj:=AObj.row false 6 z11 })])∧Wk (i0 (↑(List.length xs2):Int)) (i0 (↑(List.length xs2):Int))∧SameH (hpL [eR 1048577 [0,1] 5 (xs2++[z2]),(1048578,{ id:=[1,0],obj:=AObj.row false 6 z8 })]) (hpL [eR 1048577 [0,1] 5 (xs2++[z2]),(1048578,{ id:=[1,0],obj:=AObj.row false 6 z8 })]))))))))))))))):=by kernel_rfl
theorem gAtC3X_vc (ts:List AV)(k d:Int)(xs:List AV)(t:ByteArray)(a k1:Int)(k2 d2:Int)(xs2:List AV)(bad2 pl2:Int)(v k3:Int)(bad3 pl3:Int)(k4 bad4 pl4:Int)(b:Bool):gAtC3X (Orc.alt 0 (Orc.f (Orc.alt 1 (Orc.f (Orc.f (Orc.f (Orc.f (Orc.t (Orc.t (Orc.t (Orc.alt 0 (Orc.f (Orc.alt 1 Orc.z))))))))))))) ts k d xs t a k1 k2 d2 xs2 bad2 pl2 v k3 bad3 pl3 k4 bad4 pl4 b=(let z1:=[AV.agg [AV.lst false 3 ts,i0 k,i0 d,AV.slc 1048577 [0,0] 0 (List.length xs),i0 (0:Int),i0 (0:Int)]]; let z2:=AV.ptr 1048578 [1,0] 0 0; let z3:=AV.agg [i0 (10:Int),i0 a,i0 (0:Int),s0 t,AV.lst false 1 [i0 v]]; let z4:=(Sp.con [spA (rgV (10:Int) a (0:Int) t [i0 v]) (↑(List.length xs2):Int) (xHp 0 ts k3 (d2-(1:Int)) xs2 bad3 pl3) (xHp 1 ts k3 (d2-(1:Int)) (xs2++[rgV (10:Int) a (0:Int) t [i0 v]]) bad3 pl3)]); let z5:=AV.slc 1048577 [0,0] 0 (List.length xs2); let z6:=(xHp 0 ts k1 (d+(1:Int)) xs (0:Int) (0:Int)); let z7:=AV.lst false 3 ts; let z8:=(WX.add XB fXIs (Sp.con [spI (2:Int) false (xHp 0 ts k d xs (0:Int) (0:Int)),spI (1:Int) true (xHp 0 ts k d xs (0:Int) (0:Int))])); let z9:=eR 1048577 [0,0] 5 xs; let z10:=AV.slc 1048577 [0,0] 0 (List.length xs); let z11:=[AV.agg [z7,i0 k3,i0 (d2-(1:Int)),AV.slc 1048577 [0,1] 0 (List.length (xs2++[z3])),i0 bad3,i0 pl3]]; let z12:=eR 1048577 [0,0] 5 xs2; let z13:=(k+(1:Int)); let z14:=[AV.agg [z7,i0 k1,i0 (d+(1:Int)),z10,i0 (0:Int),i0 (0:Int)]]; let z15:=(Sp.con [spD true (xHp 0 ts z13 d xs (0:Int) (0:Int)) z6]); let z16:=[AV.agg [z7,i0 k3,i0 (d2-(1:Int)),z5,i0 bad3,i0 pl3]]; let z17:=[AV.agg [z7,i0 z13,i0 d,z10,i0 (0:Int),i0 (0:Int)]]; let z18:=(Sp.con [spV v z6 (xHp 1 ts k2 d2 xs2 bad2 pl2)]); let z19:=[AV.agg [z7,i0 k2,i0 d2,z5,i0 bad2,i0 pl2]]; let z20:=[AV.agg [z7,i0 k4,i0 d2,z5,i0 bad4,i0 pl4]]; U1 [z2,i0 (2:Int)] [z9,(1048578,{ id:=[1,0],obj:=AObj.row false 6 z1 })] (Nf (U1 [z2,i0 (1:Int)] [z9,(1048578,{ id:=[1,0],obj:=AObj.row false 6 z1 })] (Nf ((decide ((0:Int)≤k∧k<(↑(List.length ts):Int))&&(Nat.beq 3 3&&(isShp (Cx.B (cxV (XQn (WX.add (WX.add (WX.add (WX.add (WX.add z8 fXArgs (Sp.con [Sp.pure Unit (fun (_:Unit)=>True) (fun (_:Unit)=>[s0 t]) fun (_:Unit)=>AV.tup [i0 (1:Int),b0 true]])) fXDown z15) fXExpr z18) fXWant (Sp.con [spX [i0 (4:Int)] (xHp 0 ts k2 d2 xs2 bad2 pl2) { x:=b0 false,σ:=xHp 0 ts k4 d2 xs2 bad4 pl4,ws:=[1048578] },spX [i0 (3:Int)] (xHp 0 ts k4 d2 xs2 bad4 pl4) { x:=b0 b,σ:=xHp 0 ts k3 d2 xs2 bad3 pl3,ws:=[1048578] }])) fXAdd z4) fXAtom [38,39,49,51,117,119]) 14 fXAtom)) shN 124 (List.getD ts (Int.toNat k) (AV.lit (Value.tuple { toList:=[] })))&&(true||false))))=true∧inR IntKind.i64 z13=true∧(decide ((0:Int)≤k+(1:Int)∧k+(1:Int)<(↑(List.length ts):Int))&&(Nat.beq 3 3&&(isShp (Cx.B (cxV (XQn (WX.add (WX.add (WX.add (WX.add (WX.add z8 fXArgs (Sp.con [Sp.pure Unit (fun (_:Unit)=>True) (fun (_:Unit)=>[s0 t]) fun (_:Unit)=>AV.tup [i0 (1:Int),b0 true]])) fXDown z15) fXExpr z18) fXWant (Sp.con [spX [i0 (4:Int)] (xHp 0 ts k2 d2 xs2 bad2 pl2) { x:=b0 false,σ:=xHp 0 ts k4 d2 xs2 bad4 pl4,ws:=[1048578] },spX [i0 (3:Int)] (xHp 0 ts k4 d2 xs2 bad4 pl4) { x:=b0 b,σ:=xHp 0 ts k3 d2 xs2 bad3 pl3,ws:=[1048578] }])) fXAdd z4) fXAtom [38,39,49,51,117,119]) 14 fXAtom)) shN 124 (List.getD ts (Int.toNat z13) (AV.lit (Value.tuple { toList:=[] })))&&(true||false))))=true∧(intA (nthA 0 (List.getD ts (Int.toNat z13) (AV.lit (Value.tuple { toList:=[] })))) != (2:Int))=false∧∃ (_:Unit),(True∧Wks [s0 (strA (nthA 2 (List.getD ts (Int.toNat k) (AV.lit (Value.tuple { toList:=[] })))))] [s0 t]∧hpL []=hpL [])∧Nf (inR IntKind.i64 z13=true∧U1 [z2] [z9,(1048578,{ id:=[1,0],obj:=AObj.row false 6 z17 })] (Nf (Yt (U1 [z2] [z9,(1048578,{ id:=[1,0],obj:=AObj.row false 6 z14 })] (Yt (Yt (U1 [z2,i0 (4:Int)] [z12,(1048578,{ id:=[1,0],obj:=AObj.row false 6 z19 })] (Nf (U1 [z2,i0 (3:Int)] [z12,(1048578,{ id:=[1,0],obj:=AObj.row false 6 z20 })] (inR IntKind.i64 (d2-(1:Int))=true∧∃ (_:Unit),(True∧Wks [z2,AV.agg [i0 (10:Int),i0 (intA (nthA 1 (List.getD ts (Int.toNat k) (AV.lit (Value.tuple { toList:=[] }))))),i0 (0:Int),s0 (strA (nthA 2 (List.getD ts (Int.toNat k) (AV.lit (Value.tuple { toList:=[] }))))),AV.lst true 1 [i0 v]]] [z2,z3]∧hpL [z12,(1048578,{ id:=[1,0],obj:=AObj.row false 6 z16 })]=hpL [z12,(1048578,{ id:=[1,0],obj:=AObj.row false 6 z16 })])∧Wk (i0 (↑(List.length xs2):Int)) (i0 (↑(List.length xs2):Int))∧SameH (hpL [eR 1048577 [0,1] 5 (xs2++[z3]),(1048578,{ id:=[1,0],obj:=AObj.row false 6 z11 })]) (hpL [eR 1048577 [0,1] 5 (xs2++[z3]),(1048578,{ id:=[1,0],obj:=AObj.row false 6 z11 })])))))))))))))))):=by kernel_rfl
theorem gAtC3F_vc (ts:List AV)(k d:Int)(xs:List AV)(t tn:ByteArray)(a m:Int)(k1 k2 d2:Int)(xs2:List AV)(bad2 pl2:Int)(v k3:Int)(bad3 pl3:Int)(k4 bad' pl':Int):gAtC3F (Orc.alt 0 (Orc.f (Orc.alt 1 (Orc.f (Orc.f (Orc.f (Orc.f (Orc.t (Orc.t (Orc.t (Orc.t (Orc.alt 2 (Orc.t (Orc.t (Orc.t (Orc.t Orc.z)))))))))))))))) ts k d xs t tn a m k1 k2 d2 xs2 bad2 pl2 v k3 bad3 pl3 k4 bad' pl'=(let z1:=(WX.add XB fXIs (Sp.con [spI (2:Int) false (xHp 0 ts k d xs (0:Int) (0:Int)),spI (1:Int) true (xHp 0 ts k d xs (0:Int) (0:Int)),spI (1:Int) false (xHp 0 ts k4 d2 xs2 (0:Int) (0:Int))])); let z2:=(Sp.con [spV v (xHp 0 ts k1 (d+(1:Int)) xs (0:Int) (0:Int)) (xHp 1 ts k2 d2 xs2 bad2 pl2)]); let z3:=AV.ptr 1048578 [1,0] 0 0; let z4:=eR 1048577 [0,0] 5 xs; let z5:=[AV.agg [AV.lst false 3 ts,i0 k2,i0 d2,AV.slc 1048577 [0,0] 0 (List.length xs2),i0 bad2,i0 pl2]]; let z6:=[AV.agg [AV.lst false 3 ts,i0 k4,i0 d2,AV.slc 1048577 [0,1] 0 (List.length xs2),i0 bad',i0 pl']]; let z7:=eR 1048577 [0,0] 5 xs2; let z8:=(xHp 0 ts k4 d2 xs2 (0:Int) (0:Int)); let z9:=(xHp 0 ts k2 d2 xs2 bad2 pl2); let z10:=(qVK96 ts k4 d2 xs2); let z11:=[38,39,49,51,117,119]; let z12:=(↑(List.length ts):Int); let z13:=(qVK90 ts k d xs); let z14:=[i0 (1:Int),b0 true]; let z15:=(k+(1:Int)); let z16:=(qVK93 ts k d xs k1); U1 (qVK97) [z4,(1048578,{ id:=[1,0],obj:=AObj.row false 6 z13 })] (Nf (U1 (qVK98) [z4,(1048578,{ id:=[1,0],obj:=AObj.row false 6 z13 })] (Nf ((decide ((0:Int)≤k∧k<z12)&&(Nat.beq 3 3&&(isShp (Cx.B (cxV (XQn (WX.add (WX.add (WX.add (WX.add (WX.add (WX.add z1 fXArgs (Sp.con [Sp.pure Unit (fun (_:Unit)=>True) (fun (_:Unit)=>[s0 t]) fun (_:Unit)=>AV.tup z14])) fXDown z16) fXExpr z2) fXWant (Sp.con [spX [i0 (4:Int)] z9 { x:=b0 true,σ:=xHp 0 ts k4 d2 xs2 (0:Int) (0:Int),ws:=[1048578] }])) fXNumber (Sp.con [Sp.pure Unit (fun (_:Unit)=>True) (fun (_:Unit)=>[s0 tn]) fun (_:Unit)=>i0 m])) fXFail (Sp.con [spX [i0 (15:Int)] z8 { x:=i0 (0:Int),σ:=xHp 0 ts k4 d2 xs2 bad' pl',ws:=[1048578] }])) fXAtom z11) 14 fXAtom)) shN 124 (List.getD ts (Int.toNat k) (AV.lit (Value.tuple { toList:=[] })))&&(true||false))))=true∧inR IntKind.i64 z15=true∧(decide ((0:Int)≤k+(1:Int)∧k+(1:Int)<z12)&&(Nat.beq 3 3&&(isShp (Cx.B (cxV (XQn (WX.add (WX.add (WX.add (WX.add (WX.add (WX.add z1 fXArgs (Sp.con [Sp.pure Unit (fun (_:Unit)=>True) (fun (_:Unit)=>[s0 t]) fun (_:Unit)=>AV.tup z14])) fXDown z16) fXExpr z2) fXWant (Sp.con [spX [i0 (4:Int)] z9 { x:=b0 true,σ:=xHp 0 ts k4 d2 xs2 (0:Int) (0:Int),ws:=[1048578] }])) fXNumber (Sp.con [Sp.pure Unit (fun (_:Unit)=>True) (fun (_:Unit)=>[s0 tn]) fun (_:Unit)=>i0 m])) fXFail (Sp.con [spX [i0 (15:Int)] z8 { x:=i0 (0:Int),σ:=xHp 0 ts k4 d2 xs2 bad' pl',ws:=[1048578] }])) fXAtom z11) 14 fXAtom)) shN 124 (List.getD ts (Int.toNat z15) (AV.lit (Value.tuple { toList:=[] })))&&(true||false))))=true∧(intA (nthA 0 (List.getD ts (Int.toNat z15) (AV.lit (Value.tuple { toList:=[] })))) != (2:Int))=false∧∃ (_:Unit),(True∧Wks [s0 (strA (nthA 2 (List.getD ts (Int.toNat k) (AV.lit (Value.tuple { toList:=[] })))))] [s0 t]∧hpL []=hpL [])∧Nf (inR IntKind.i64 z15=true∧U1 [z3] [z4,(1048578,{ id:=[1,0],obj:=AObj.row false 6 (qVK91 ts k d xs) })] (Nf (Yt (U1 [z3] [z4,(1048578,{ id:=[1,0],obj:=AObj.row false 6 (qVK94 ts k1 d xs) })] (Yt (Yt (U1 [z3,i0 (4:Int)] [z7,(1048578,{ id:=[1,0],obj:=AObj.row false 6 z5 })] (Yt ((decide ((0:Int)≤k4∧k4<z12)&&(Nat.beq 3 3&&(isShp (Cx.B (cxV (XQn (WX.add (WX.add (WX.add (WX.add (WX.add (WX.add z1 fXArgs (Sp.con [Sp.pure Unit (fun (_:Unit)=>True) (fun (_:Unit)=>[s0 t]) fun (_:Unit)=>AV.tup z14])) fXDown z16) fXExpr z2) fXWant (Sp.con [spX [i0 (4:Int)] z9 { x:=b0 true,σ:=xHp 0 ts k4 d2 xs2 (0:Int) (0:Int),ws:=[1048578] }])) fXNumber (Sp.con [Sp.pure Unit (fun (_:Unit)=>True) (fun (_:Unit)=>[s0 tn]) fun (_:Unit)=>i0 m])) fXFail (Sp.con [spX [i0 (15:Int)] z8 { x:=i0 (0:Int),σ:=xHp 0 ts k4 d2 xs2 bad' pl',ws:=[1048578] }])) fXAtom z11) 14 fXAtom)) shN 124 (List.getD ts (Int.toNat k4) (AV.lit (Value.tuple { toList:=[] })))&&(true||false))))=true∧∃ (_:Unit),(True∧Wks [s0 (strA (nthA 2 (List.getD ts (Int.toNat k4) (AV.lit (Value.tuple { toList:=[] })))))] [s0 tn]∧hpL []=hpL [])∧U1 (qVK98) [z7,(1048578,{ id:=[1,0],obj:=AObj.row false 6 z10 })] (Yt4 (U1 [z3,i0 (15:Int)] [z7,(1048578,{ id:=[1,0],obj:=AObj.row false 6 z10 })] (Wk (i0 (0:Int)) (i0 (0:Int))∧SameH (hpL [eR 1048577 [0,1] 5 xs2,(1048578,{ id:=[1,0],obj:=AObj.row false 6 z6 })]) (hpL [eR 1048577 [0,1] 5 xs2,(1048578,{ id:=[1,0],obj:=AObj.row false 6 z6 })])))))))))))))))))):=by kernel_rfl
theorem gAtC3N_vc (ts:List AV)(k d:Int)(xs:List AV)(t tn:ByteArray)(a m:Int)(k1 k2 d2:Int)(xs2:List AV)(bad2 pl2:Int)(v k3:Int)(bad3 pl3:Int)(k4 bad' pl':Int):gAtC3N (Orc.alt 0 (Orc.f (Orc.alt 1 (Orc.f (Orc.f (Orc.f (Orc.f (Orc.t (Orc.t (Orc.t (Orc.t (Orc.alt 2 (Orc.f (Orc.f (Orc.f (Orc.t Orc.z)))))))))))))))) ts k d xs t tn a m k1 k2 d2 xs2 bad2 pl2 v k3 bad3 pl3 k4 bad' pl'=(let z1:=(Sp.con [spV v (xHp 0 ts k1 (d+(1:Int)) xs (0:Int) (0:Int)) (xHp 1 ts k2 d2 xs2 bad2 pl2)]); let z2:=AV.ptr 1048578 [1,0] 0 0; let z3:=eR 1048577 [0,0] 5 xs; let z4:=[AV.agg [AV.lst false 3 ts,i0 k2,i0 d2,AV.slc 1048577 [0,0] 0 (List.length xs2),i0 bad2,i0 pl2]]; let z5:=[AV.agg [AV.lst false 3 ts,i0 k4,i0 d2,AV.slc 1048577 [0,1] 0 (List.length xs2),i0 bad',i0 pl']]; let z6:=eR 1048577 [0,0] 5 xs2; let z7:=(xHp 0 ts k4 d2 xs2 (0:Int) (0:Int)); let z8:=(xHp 0 ts k2 d2 xs2 bad2 pl2); let z9:=(qVK96 ts k4 d2 xs2); let z10:=(qVK95 ts k d xs k4 d2 xs2); let z11:=[38,39,49,51,117,119]; let z12:=(↑(List.length ts):Int); let z13:=(qVK90 ts k d xs); let z14:=[i0 (1:Int),b0 true]; let z15:=(k+(1:Int)); let z16:=(qVK93 ts k d xs k1); U1 (qVK97) [z3,(1048578,{ id:=[1,0],obj:=AObj.row false 6 z13 })] (Nf (U1 (qVK98) [z3,(1048578,{ id:=[1,0],obj:=AObj.row false 6 z13 })] (Nf ((decide ((0:Int)≤k∧k<z12)&&(Nat.beq 3 3&&(isShp (Cx.B (cxV (XQn (WX.add (WX.add (WX.add (WX.add (WX.add (WX.add z10 fXArgs (Sp.con [Sp.pure Unit (fun (_:Unit)=>True) (fun (_:Unit)=>[s0 t]) fun (_:Unit)=>AV.tup z14])) fXDown z16) fXExpr z1) fXWant (Sp.con [spX [i0 (4:Int)] z8 { x:=b0 true,σ:=xHp 0 ts k4 d2 xs2 (0:Int) (0:Int),ws:=[1048578] }])) fXNumber (Sp.con [Sp.pure Unit (fun (_:Unit)=>True) (fun (_:Unit)=>[s0 tn]) fun (_:Unit)=>i0 m])) fXFail (Sp.con [spX [i0 (15:Int)] z7 { x:=i0 (0:Int),σ:=xHp 0 ts k4 d2 xs2 bad' pl',ws:=[1048578] }])) fXAtom z11) 14 fXAtom)) shN 124 (List.getD ts (Int.toNat k) (AV.lit (Value.tuple { toList:=[] })))&&(true||false))))=true∧inR IntKind.i64 z15=true∧(decide ((0:Int)≤k+(1:Int)∧k+(1:Int)<z12)&&(Nat.beq 3 3&&(isShp (Cx.B (cxV (XQn (WX.add (WX.add (WX.add (WX.add (WX.add (WX.add z10 fXArgs (Sp.con [Sp.pure Unit (fun (_:Unit)=>True) (fun (_:Unit)=>[s0 t]) fun (_:Unit)=>AV.tup z14])) fXDown z16) fXExpr z1) fXWant (Sp.con [spX [i0 (4:Int)] z8 { x:=b0 true,σ:=xHp 0 ts k4 d2 xs2 (0:Int) (0:Int),ws:=[1048578] }])) fXNumber (Sp.con [Sp.pure Unit (fun (_:Unit)=>True) (fun (_:Unit)=>[s0 tn]) fun (_:Unit)=>i0 m])) fXFail (Sp.con [spX [i0 (15:Int)] z7 { x:=i0 (0:Int),σ:=xHp 0 ts k4 d2 xs2 bad' pl',ws:=[1048578] }])) fXAtom z11) 14 fXAtom)) shN 124 (List.getD ts (Int.toNat z15) (AV.lit (Value.tuple { toList:=[] })))&&(true||false))))=true∧(intA (nthA 0 (List.getD ts (Int.toNat z15) (AV.lit (Value.tuple { toList:=[] })))) != (2:Int))=false∧∃ (_:Unit),(True∧Wks [s0 (strA (nthA 2 (List.getD ts (Int.toNat k) (AV.lit (Value.tuple { toList:=[] })))))] [s0 t]∧hpL []=hpL [])∧Nf (inR IntKind.i64 z15=true∧U1 [z2] [z3,(1048578,{ id:=[1,0],obj:=AObj.row false 6 (qVK91 ts k d xs) })] (Nf (Yt (U1 [z2] [z3,(1048578,{ id:=[1,0],obj:=AObj.row false 6 (qVK94 ts k1 d xs) })] (Yt (Yt (U1 [z2,i0 (4:Int)] [z6,(1048578,{ id:=[1,0],obj:=AObj.row false 6 z4 })] (Yt ((decide ((0:Int)≤k4∧k4<z12)&&(Nat.beq 3 3&&(isShp (Cx.B (cxV (XQn (WX.add (WX.add (WX.add (WX.add (WX.add (WX.add z10 fXArgs (Sp.con [Sp.pure Unit (fun (_:Unit)=>True) (fun (_:Unit)=>[s0 t]) fun (_:Unit)=>AV.tup z14])) fXDown z16) fXExpr z1) fXWant (Sp.con [spX [i0 (4:Int)] z8 { x:=b0 true,σ:=xHp 0 ts k4 d2 xs2 (0:Int) (0:Int),ws:=[1048578] }])) fXNumber (Sp.con [Sp.pure Unit (fun (_:Unit)=>True) (fun (_:Unit)=>[s0 tn]) fun (_:Unit)=>i0 m])) fXFail (Sp.con [spX [i0 (15:Int)] z7 { x:=i0 (0:Int),σ:=xHp 0 ts k4 d2 xs2 bad' pl',ws:=[1048578] }])) fXAtom z11) 14 fXAtom)) shN 124 (List.getD ts (Int.toNat k4) (AV.lit (Value.tuple { toList:=[] })))&&(true||false))))=true∧∃ (_:Unit),(True∧Wks [s0 (strA (nthA 2 (List.getD ts (Int.toNat k4) (AV.lit (Value.tuple { toList:=[] })))))] [s0 tn]∧hpL []=hpL [])∧U1 (qVK98) [z6,(1048578,{ id:=[1,0],obj:=AObj.row false 6 z9 })] (Nf (Nf (Nf (decide (m<(0:Int))=true∧U1 [z2,i0 (15:Int)] [z6,(1048578,{ id:=[1,0],obj:=AObj.row false 6 z9 })] (Wk (i0 (0:Int)) (i0 (0:Int))∧SameH (hpL [eR 1048577 [0,1] 5 xs2,(1048578,{ id:=[1,0],obj:=AObj.row false 6 z5 })]) (hpL [eR 1048577 [0,1] 5 xs2,(1048578,{ id:=[1,0],obj:=AObj.row false 6 z5 })])))))))))))))))))))):=by kernel_rfl
theorem gAtC3Y_vc (ts:List AV)(k d:Int)(xs:List AV)(t tn:ByteArray)(a m:Int)(k1 k2 d2:Int)(xs2:List AV)(bad2 pl2:Int)(v k3:Int)(bad3 pl3 k4:Int)(b:Bool):gAtC3Y (Orc.alt 0 (Orc.f (Orc.alt 1 (Orc.f (Orc.f (Orc.f (Orc.f (Orc.t (Orc.t (Orc.t (Orc.alt 0 (Orc.t (Orc.alt 2 (Orc.f (Orc.f (Orc.f (Orc.f (Orc.alt 1 Orc.z)))))))))))))))))) ts k d xs t tn a m k1 k2 d2 xs2 bad2 pl2 v k3 bad3 pl3 k4 b=(let z1:=(Sp.con [spA (rgV (10:Int) a m t [i0 v]) (↑(List.length xs2):Int) (xHp 0 ts k3 (d2-(1:Int)) xs2 bad3 pl3) (xHp 1 ts k3 (d2-(1:Int)) (xs2++[rgV (10:Int) a m t [i0 v]]) bad3 pl3)]); let z2:=AV.agg [i0 (10:Int),i0 a,i0 m,s0 t,AV.lst false 1 [i0 v]]; let z3:=(Sp.con [spV v (xHp 0 ts k1 (d+(1:Int)) xs (0:Int) (0:Int)) (xHp 1 ts k2 d2 xs2 bad2 pl2)]); let z4:=AV.ptr 1048578 [1,0] 0 0; let z5:=AV.slc 1048577 [0,0] 0 (List.length xs2); let z6:=eR 1048577 [0,0] 5 xs2; let z7:=eR 1048577 [0,0] 5 xs; let z8:=[AV.agg [AV.lst false 3 ts,i0 k3,i0 (d2-(1:Int)),AV.slc 1048577 [0,1] 0 (List.length (xs2++[z2])),i0 bad3,i0 pl3]]; let z9:=(xHp 0 ts (k4+(1:Int)) d2 xs2 (0:Int) (0:Int)); let z10:=[AV.agg [AV.lst false 3 ts,i0 (k4+(1:Int)),i0 d2,z5,i0 (0:Int),i0 (0:Int)]]; let z11:=[AV.agg [AV.lst false 3 ts,i0 k3,i0 (d2-(1:Int)),z5,i0 bad3,i0 pl3]]; let z12:=[AV.agg [AV.lst false 3 ts,i0 k2,i0 d2,z5,i0 bad2,i0 pl2]]; let z13:=(xHp 0 ts k2 d2 xs2 bad2 pl2); let z14:=(qVK95 ts k d xs k4 d2 xs2); let z15:=[38,39,49,51,117,119]; let z16:=(↑(List.length ts):Int); let z17:=(qVK90 ts k d xs); let z18:=[i0 (1:Int),b0 true]; let z19:=(k+(1:Int)); let z20:=(qVK93 ts k d xs k1); U1 (qVK97) [z7,(1048578,{ id:=[1,0],obj:=AObj.row false 6 z17 })] (Nf (U1 (qVK98) [z7,(1048578,{ id:=[1,0],obj:=AObj.row false 6 z17 })] (Nf ((decide ((0:Int)≤k∧k<z16)&&(Nat.beq 3 3&&(isShp (Cx.B (cxV (XQn (WX.add (WX.add (WX.add (WX.add (WX.add (WX.add z14 fXArgs (Sp.con [Sp.pure Unit (fun (_:Unit)=>True) (fun (_:Unit)=>[s0 t]) fun (_:Unit)=>AV.tup z18])) fXDown z20) fXExpr z3) fXWant (Sp.con [spX [i0 (4:Int)] z13 { x:=b0 true,σ:=xHp 0 ts k4 d2 xs2 (0:Int) (0:Int),ws:=[1048578] },spX [i0 (3:Int)] z9 { x:=b0 b,σ:=xHp 0 ts k3 d2 xs2 bad3 pl3,ws:=[1048578] }])) fXNumber (Sp.con [Sp.pure Unit (fun (_:Unit)=>True) (fun (_:Unit)=>[s0 tn]) fun (_:Unit)=>i0 m])) fXAdd z1) fXAtom z15) 14 fXAtom)) shN 124 (List.getD ts (Int.toNat k) (AV.lit (Value.tuple { toList:=[] })))&&(true||false))))=true∧inR IntKind.i64 z19=true∧(decide ((0:Int)≤k+(1:Int)∧k+(1:Int)<z16)&&(Nat.beq 3 3&&(isShp (Cx.B (cxV (XQn (WX.add (WX.add (WX.add (WX.add (WX.add (WX.add z14 fXArgs (Sp.con [Sp.pure Unit (fun (_:Unit)=>True) (fun (_:Unit)=>[s0 t]) fun (_:Unit)=>AV.tup z18])) fXDown z20) fXExpr z3) fXWant (Sp.con [spX [i0 (4:Int)] z13 { x:=b0 true,σ:=xHp 0 ts k4 d2 xs2 (0:Int) (0:Int),ws:=[1048578] },spX [i0 (3:Int)] z9 { x:=b0 b,σ:=xHp 0 ts k3 d2 xs2 bad3 pl3,ws:=[1048578] }])) fXNumber (Sp.con [Sp.pure Unit (fun (_:Unit)=>True) (fun (_:Unit)=>[s0 tn]) fun (_:Unit)=>i0 m])) fXAdd z1) fXAtom z15) 14 fXAtom)) shN 124 (List.getD ts (Int.toNat z19) (AV.lit (Value.tuple { toList:=[] })))&&(true||false))))=true∧(intA (nthA 0 (List.getD ts (Int.toNat z19) (AV.lit (Value.tuple { toList:=[] })))) != (2:Int))=false∧∃ (_:Unit),(True∧Wks [s0 (strA (nthA 2 (List.getD ts (Int.toNat k) (AV.lit (Value.tuple { toList:=[] })))))] [s0 t]∧hpL []=hpL [])∧Nf (inR IntKind.i64 z19=true∧U1 [z4] [z7,(1048578,{ id:=[1,0],obj:=AObj.row false 6 (qVK91 ts k d xs) })] (Nf (Yt (U1 [z4] [z7,(1048578,{ id:=[1,0],obj:=AObj.row false 6 (qVK94 ts k1 d xs) })] (Yt (Yt (U1 [z4,i0 (4:Int)] [z6,(1048578,{ id:=[1,0],obj:=AObj.row false 6 z12 })] (Yt ((decide ((0:Int)≤k4∧k4<z16)&&(Nat.beq 3 3&&(isShp (Cx.B (cxV (XQn (WX.add (WX.add (WX.add (WX.add (WX.add (WX.add z14 fXArgs (Sp.con [Sp.pure Unit (fun (_:Unit)=>True) (fun (_:Unit)=>[s0 t]) fun (_:Unit)=>AV.tup z18])) fXDown z20) fXExpr z3) fXWant (Sp.con [spX [i0 (4:Int)] z13 { x:=b0 true,σ:=xHp 0 ts k4 d2 xs2 (0:Int) (0:Int),ws:=[1048578] },spX [i0 (3:Int)] z9 { x:=b0 b,σ:=xHp 0 ts k3 d2 xs2 bad3 pl3,ws:=[1048578] }])) fXNumber (Sp.con [Sp.pure Unit (fun (_:Unit)=>True) (fun (_:Unit)=>[s0 tn]) fun (_:Unit)=>i0 m])) fXAdd z1) fXAtom z15) 14 fXAtom)) shN 124 (List.getD ts (Int.toNat k4) (AV.lit (Value.tuple { toList:=[] })))&&(true||false))))=true∧∃ (_:Unit),(True∧Wks [s0 (strA (nthA 2 (List.getD ts (Int.toNat k4) (AV.lit (Value.tuple { toList:=[] })))))] [s0 tn]∧hpL []=hpL [])∧U1 (qVK98) [z6,(1048578,{ id:=[1,0],obj:=AObj.row false 6 (qVK96 ts k4 d2 xs2) })] (Nf (Nf (Nf (decide (m<(0:Int))=false∧inR IntKind.i64 (k4+(1:Int))=true∧U1 [z4,i0 (3:Int)] [z6,(1048578,{ id:=[1,0],obj:=AObj.row false 6 z10 })] (inR IntKind.i64 (d2-(1:Int))=true∧∃ (_:Unit),(True∧Wks [z4,AV.agg [i0 (10:Int),i0 (intA (nthA 1 (List.getD ts (Int.toNat k) (AV.lit (Value.tuple { toList:=[] }))))),i0 m,s0 (strA (nthA 2 (List.getD ts (Int.toNat k) (AV.lit (Value.tuple { toList:=[] }))))),AV.lst true 1 [i0 v]]] [z4,z2]∧hpL [z6,(1048578,{ id:=[1,0],obj:=AObj.row false 6 z11 })]=hpL [z6,(1048578,{ id:=[1,0],obj:=AObj.row false 6 z11 })])∧Wk (i0 (↑(List.length xs2):Int)) (i0 (↑(List.length xs2):Int))∧SameH (hpL [eR 1048577 [0,1] 5 (xs2++[z2]),(1048578,{ id:=[1,0],obj:=AObj.row false 6 z8 })]) (hpL [eR 1048577 [0,1] 5 (xs2++[z2]),(1048578,{ id:=[1,0],obj:=AObj.row false 6 z8 })])))))))))))))))))))):=by kernel_rfl
end Go.Proofs.YtpofhijgccocpaaGreatDoor
end
