/- Parts of the proof of ParseRight. -/
import Derived.Test.YtpofhijgccocpaaGreatDoorAWh
import Derived.Test.YtpofhijgccocpaaGreatDoorChecked
import Derived.Test.YtpofhijgccocpaaGreatDoorAWm
import Derived.Test.YtpofhijgccocpaaGreatDoorASlaw
import Derived.Shelf.LaysM
import Derived.Shelf.Strconv.Itoa3
import Derived.Shelf.LaysC
import Derived.Shelf.Strconv.AtoiAll
import Derived.Test.YtpofhijgccocpaaGreatDoorProg
import Derived.Test.YtpofhijgccocpaaGreatDoorASrefl
import Derived.Test.YtpofhijgccocpaaGreatDoorAWnil
section
namespace Go.Proofs.YtpofhijgccocpaaGreatDoor
abbrev zai1:Nat:=10
abbrev zabT:Nat:=41
abbrev zaaP:Nat:=78
abbrev zaa7:Nat:=79
abbrev zaqT:Nat:=12
abbrev zaw:Nat:=108
abbrev zaxv:Nat:=20
abbrev zag4:Nat:=17
abbrev zacJ:Nat:=16
abbrev zavw:Nat:=46
abbrev zav9:Nat:=43
abbrev zan:Nat:=44
abbrev fTextN:Nat:=47
abbrev zai2:Nat:=83
abbrev zafy:Nat:=84
abbrev zana:Nat:=110
abbrev zanc:Nat:=45
abbrev zavx:Nat:=82
abbrev zavy:Nat:=80
abbrev zaah:Nat:=81
abbrev zaqo:Nat:=109
abbrev zalp:Nat:=130
abbrev zalr:Nat:=85
abbrev zabH:Nat:=129
abbrev zalo:Nat:=145
abbrev zafF:Nat:=221
abbrev zaeI:Nat:=5
abbrev gPow:Nat:=2
abbrev zanb:Nat:=111
abbrev zahX:Nat:=6
end Go.Proofs.YtpofhijgccocpaaGreatDoor
end
section
namespace Go.TP
open Go.AS
structure Tk where
 kind:Int
 at_:Int
 text:ByteArray
inductive Nd where
 | mk (kind at_ n:Int) (text:ByteArray) (kids:List Nd)
namespace Nd
def kind:Nd->Int | mk k _ _ _ _=>k
def at_:Nd->Int | mk _ a _ _ _=>a
def num:Nd->Int | mk _ _ n _ _=>n
def text:Nd->ByteArray | mk _ _ _ t _=>t
def kids:Nd->List Nd | mk _ _ _ _ ks=>ks
end Nd
def Nd.zero:Nd := .mk 0 0 0 ByteArray.empty []
structure R where
 n:Nd
 e:Option (Int × Int)
 ts:List Tk
def zaac:List Tk->Tk
 | []=>⟨11,0,ByteArray.empty⟩
 | t::_=>t
def zaas:List Tk->List Tk
 | []=>[]
 | t::r=>if t.kind=11 then t::r else r
def zaor (ts:List Tk):Option (Int × Int):=some (15,(zaac ts).at_)
def zac2 (part:List Tk->R)(km:Int->Int):Nat->R->R
 | 0,r=>r
 | n+1,r=>if r.e=none/\km (zaac r.ts).kind≠0 then
   let t:=zaac r.ts
   let q:=part (zaas r.ts)
   zac2 part km n ⟨.mk (km t.kind) t.at_ 0 ByteArray.empty [r.n,q.n],q.e,q.ts⟩
  else r
def kmE (k:Int):Int:=if k=7 then 2 else if k=8 then 3 else 0
def kmT (k:Int):Int:=if k=9 then 4 else 0
end Go.TP
namespace Go.TP
open Go.AS
def zaaH (s:ByteArray):Int :=
 if s=⟨#[97,108,108]⟩∨s=⟨#[110,111,110,101]⟩∨s=⟨#[109,97,115,116,101,114]⟩ then 1
 else if s=⟨#[112,97,114,101,110,116,115]⟩∨s=⟨#[99,104,105,108,100,114,101,110]⟩∨s=⟨#[97,110,99,101,115,116,111,114,115]⟩∨s=⟨#[100,101,115,99,101,110,100,97,110,116,115]⟩∨s=⟨#[104,101,97,100,115]⟩∨s=⟨#[114,111,111,116,115]⟩ then 2
 else if s=⟨#[102,105,114,115,116]⟩∨s=⟨#[108,97,115,116]⟩∨s=⟨#[108,105,109,105,116]⟩ then 3
 else 0
def zadB (c:UInt8):Bool:=(48<=c&&c<=57)||(97<=c&&c<=102)
def zaar (s:ByteArray):Bool:=s.data.toList.all zadB&&decide (0<s.size)&&decide (s.size<=64)
def zadV (c:UInt8):Bool:=48<=c&&c<=57
def numB (l:List UInt8):Int:=l.foldl (fun a c=>10*a+(c.toNat-48:Int)) 0
def zaez (t:Tk):Option Int:=if t.kind=1/\t.text.data.toList.all zadV/\0<t.text.size/\t.text.size<=6 then some (numB t.text.data.toList) else none
def zaaV (k:Int)(ts:List Tk):Option (Int × Int) × List Tk:=if (zaac ts).kind=k then (none,zaas ts) else (zaor ts,ts)
def zabI (d:Int)(t:Tk)(n0:Nd)(ts:List Tk)(f:Int->List Tk->R):R:=if d=24 then ⟨n0,some (16,t.at_),ts⟩ else f (d+1) ts
inductive Lv | expr | term | part | ranged | atom
def zacn (atom:List Tk->R)(k a:Int)(first:Nd)(must:Bool)(ts:List Tk):R :=
 if must=false/\(zaac ts).kind≠2/\(zaac ts).kind≠1 then ⟨.mk 7 a 0 ByteArray.empty [first],none,ts⟩
 else
  let q:=atom ts
  ⟨.mk k a 0 ByteArray.empty [first,q.n],q.e,q.ts⟩
def zavM (expr:Int->List Tk->R)(d:Int)(w:Tk)(ts:List Tk):R :=
 let n (x:Int) (ks:List Nd):Nd := .mk 10 w.at_ x w.text ks
 if zaaH w.text=0 then ⟨.zero,some (15,w.at_),ts⟩
 else zabI d (zaac ts) .zero (zaas ts) fun d ts =>
  let close (m:Nd) (ts:List Tk):R:=let x:=zaaV 3 ts; ⟨m,x.1,x.2⟩
  if zaaH w.text=1 then close (n 0 []) ts
  else
   let q:=expr d ts
   if q.e≠none then ⟨n 0 [q.n],q.e,q.ts⟩
   else if zaaH w.text=2 then close (n 0 [q.n]) q.ts
   else
    let x:=zaaV 4 q.ts
    if x.1≠none then ⟨n 0 [q.n],x.1,x.2⟩
    else match zaez (zaac x.2) with
     | none=>⟨n 0 [q.n],zaor x.2,x.2⟩
     | some k=>close (n k [q.n]) (zaas x.2)
def PF:Nat->Lv->Int->List Tk->R
 | 0,_,_,ts=>⟨.zero,none,ts⟩
 | f+1, .expr,d,ts=>zac2 (PF f .term d) kmE f (PF f .term d ts)
 | f+1, .term,d,ts=>zac2 (PF f .part d) kmT f (PF f .part d ts)
 | f+1, .part,d,ts =>
  let t:=zaac ts
  if t.kind≠10 then PF f .ranged d ts
  else zabI d t (.mk 5 t.at_ 0 ByteArray.empty []) (zaas ts) fun d ts=>let q:=PF f .part d ts; ⟨.mk 5 t.at_ 0 ByteArray.empty [q.n],q.e,q.ts⟩
 | f+1, .ranged,d,ts =>
  let t:=zaac ts
  if t.kind=5 then zabI d t (.mk 6 t.at_ 0 ByteArray.empty []) (zaas ts) fun d ts=>let q:=PF f .atom d ts; ⟨.mk 6 t.at_ 0 ByteArray.empty [q.n],q.e,q.ts⟩
  else
   let q:=PF f .atom d ts
   if q.e≠none then q
   else
    let u:=zaac q.ts
    if u.kind=5 then zabI d u (.mk 8 u.at_ 0 ByteArray.empty [q.n]) (zaas q.ts) fun d ts=>zacn (PF f .atom d) 8 u.at_ q.n false ts
    else if u.kind=6 then zacn (PF f .atom d) 9 u.at_ q.n true (zaas q.ts)
    else ⟨q.n,none,q.ts⟩
 | f+1, .atom,d,ts =>
  let t:=zaac ts
  if t.kind=2 then zabI d t .zero (zaas ts) fun d ts =>
   let q:=PF f .expr d ts
   if q.e≠none then q else let x:=zaaV 3 q.ts; ⟨q.n,x.1,x.2⟩
  else if t.kind=1 then
   let ts:=zaas ts
   if (zaac ts).kind=2 then zavM (fun d ts=>PF f .expr d ts) d t ts
   else if zaar t.text then ⟨.mk 1 t.at_ 0 t.text [],none,ts⟩
   else ⟨.zero,some (15,t.at_),ts⟩
  else ⟨.zero,zaor ts,ts⟩
end Go.TP
end
section
namespace Go.TP
open Go.AS
def Nd.kid (n:Nd)(i:Nat):Nd:=n.kids.getD i .zero
def zabQ (k:Int)(t:ByteArray):Int :=
 if k=2∨k=3∨k=4∨k=8∨k=9 then 2
 else if k=5∨k=6∨k=7 then 1
 else if k=1 then 0
 else if k=10 then (if zaaH t-1<1 then zaaH t-1 else 1)
 else -1
def zabv (k n:Int)(t:ByteArray):Bool :=
 if k=1 then zaar t&&decide (n=0)
 else if k=10 then decide (n=0)||(decide (zaaH t=3)&&(decide (0<n)&&decide (n<=999999)))
 else decide (t=ByteArray.empty)&&decide (n=0)
def zad (k n:Int)(t:ByteArray)(l:Nat):Bool:=decide (0<=zabQ k t)&&(decide (zabQ k t=l)&&zabv k n t)
mutual
def zaav:Nd->Bool
 | .mk k _ n t ks=>zad k n t ks.length&&zack ks
def zack:List Nd->Bool
 | []=>true
 | n::r=>zaav n&&zack r
end
mutual
def zaxS:Nd->Nd->Bool
 | .mk k _ n t ks,b=>decide (k=b.kind)&&(decide (n=b.num)&&(decide (t=b.text)&&(decide (ks.length=b.kids.length)&&zaxT ks b.kids)))
def zaxT:List Nd->List Nd->Bool
 | [],_=>true
 | _::_,[]=>true
 | a::r,b::s=>zaxS a b&&zaxT r s
end
mutual
def zasz:Nd->List Nd
 | .mk k a _ t ks=>if k=1 then [.mk 1 a 0 t []] else zasA ks
def zasA:List Nd->List Nd
 | []=>[]
 | n::r=>zasz n++zasA r
end
mutual
def zaAe:Nd->Int
 | .mk _ _ _ _ ks=>zaxP ks 1
def zaxP:List Nd->Int->Int
 | [],a=>a
 | n::r,a=>zaxP r (a+zaAe n)
end
def zajH (n:Nd)(s:ByteArray):Bool:=decide (n.kind=10)&&decide (n.text=s)
def zabC:ByteArray:=⟨#[110,111,110,101]⟩
def zawM (n:Nd)(k:Int):Nd:=if n.kind=k then n.kid 0 else n
def asS (k:Int)(n:Nd):Nd := .mk k n.at_ 0 ByteArray.empty [zawM (n.kid 0) k]
def zak6 (n:Nd):Bool:=decide (0<(zasz n).length)
def zarv (n:Nd):Nd :=
 let a:=n.kid 0
 let b:=n.kid 1
 if n.kind≠2/\zajH a zabC=true/\zak6 b=false then a
 else if n.kind=4/\zajH b zabC=true/\zak6 a=false then b
 else if n.kind=2/\zajH a zabC=true then b
 else if n.kind≠4/\zajH b zabC=true then a
 else n
def wAnc:ByteArray:=⟨#[97,110,99,101,115,116,111,114,115]⟩
def zabZ:ByteArray:=⟨#[100,101,115,99,101,110,100,97,110,116,115]⟩
def zaaX:ByteArray:=⟨#[104,101,97,100,115]⟩
def zaa3:ByteArray:=⟨#[114,111,111,116,115]⟩
def zaaY:ByteArray:=⟨#[102,105,114,115,116]⟩
def zacx:ByteArray:=⟨#[108,97,115,116]⟩
def zaa8:ByteArray:=⟨#[108,105,109,105,116]⟩
def zavK (t:ByteArray)(n:Nd):Nd :=
 if t=wAnc then asS 6 n
 else if t=zabZ then asS 7 n
 else if t=zaaX∨t=zaa3 then (if zajH (n.kid 0) t then n.kid 0 else n)
 else if t=zaaY∨t=zacx∨t=zaa8 then (if zajH (n.kid 0) zabC then n.kid 0 else n)
 else n
def zavL (n:Nd):Nd:=zavK n.text n
def zaAv (k:Int)(n:Nd):Nd :=
 if k=5 then (if (n.kid 0).kind=5 then (n.kid 0).kid 0 else n)
 else if k=6∨k=7 then asS k n
 else if k=10 then zavL n
 else if k=4∨k=2 then (if zaxS (n.kid 0) (n.kid 1) then n.kid 0 else zarv n)
 else if k=3 then zarv n
 else n
def zaAu (n:Nd):Nd:=zaAv n.kind n
mutual
def rewS:Nd->Nd
 | .mk k a n t ks=>zaAu (.mk k a n t (rewL ks))
def rewL:List Nd->List Nd
 | []=>[]
 | n::r=>rewS n::rewL r
end
theorem zagD:∀ {l:List Nd},zack l=true↔∀ x∈l,zaav x=true
 | []=>by simp [zack]
 | n::r=>by simp [zack,zagD (l:=r)]
theorem zafV {k a n:Int}{t:ByteArray}{ks:List Nd}:zaav (.mk k a n t ks)=true↔zad k n t ks.length=true/\∀ x∈ks,zaav x=true:=by
 rw [zaav,Bool.and_eq_true,zagD]
theorem zakr {k n:Int}{t:ByteArray}{l:Nat}(h:zad k n t l=true):zabQ k t=l:=by
 simp only [zad,Bool.and_eq_true,decide_eq_true_eq] at h; exact h.2.1
theorem zajl {k n:Int}{t:ByteArray}{l:Nat}(h:zad k n t l=true):zabv k n t=true:=by
 simp only [zad,Bool.and_eq_true,decide_eq_true_eq] at h; exact h.2.2
theorem zakK {ks:List Nd}(h:ks.length=1):∃ x,ks=[x]:=List.length_eq_one_iff.1 h
theorem zaow {ks:List Nd}(h:ks.length=2):∃ x y,ks=[x,y]:=by
 match ks,h with
 | [x,y],_=>exact ⟨x,y,rfl⟩
theorem zamQ {k a n:Int}{t:ByteArray}{ks:List Nd}(h:zaav (.mk k a n t ks)=true):(zabQ k t=ks.length)/\zabv k n t=true/\∀ x∈ks,zaav x=true :=
 ⟨zakr (zafV.1 h).1,zajl (zafV.1 h).1,(zafV.1 h).2⟩
end Go.TP
end
section
namespace Go.TP
open Go.AS
def zaaI (c:Nat):Bool:=(decide (48<=c)&&decide (c<=57))||((decide (97<=c)&&decide (c<=122))||((decide (65<=c)&&decide (c<=90))||decide (c=95)))
def zac3 (c:Nat):Bool:=decide (c=32)||(decide (c=9)||decide (c=10))
def zadL (s:ByteArray):Nat->Int->Int
 | 0,n=>n
 | f+1,n=>if n<s.size/\zaaI (zaaa s n.toNat)=true then zadL s f (n+1) else n
def zagr (s:ByteArray):Int:=zadL s s.size 0
def wAll:ByteArray:=⟨#[97,108,108]⟩
def zaam:ByteArray:=⟨#[109,97,115,116,101,114]⟩
def zaai:ByteArray:=⟨#[112,97,114,101,110,116,115]⟩
def zaaf:ByteArray:=⟨#[99,104,105,108,100,114,101,110]⟩
def bOr:ByteArray:=⟨#[111,114]⟩
def bAnd:ByteArray:=⟨#[97,110,100]⟩
def bNot:ByteArray:=⟨#[110,111,116]⟩
def zann:ByteArray:=⟨#[109,105,110,117,115]⟩
def zae (s:ByteArray):Int:=if s=bOr then 7 else if s=bAnd then 9 else if s=bNot then 10 else if s=zann then 8 else 1
def bCC:ByteArray:=⟨#[58,58]⟩
def bDD:ByteArray:=⟨#[46,46]⟩
def hasP (s p:ByteArray):Bool:=decide (p.size<=s.size)&&decide (s.extract 0 p.size=p)
def zaeX (c:Nat)(s:ByteArray):Int × Int :=
 if c=58 then (if hasP s bCC=true then (5,2) else if hasP s bDD=true then (6,2) else (0,0))
 else if c=46 then (if hasP s bDD=true then (6,2) else (0,0))
 else if c=40 then (2,1)
 else if c=41 then (3,1)
 else if c=44 then (4,1)
 else if c=43∨c=124 then (7,1)
 else if c=45 then (8,1)
 else if c=38 then (9,1)
 else if c=33 then (10,1)
 else (0,0)
def zaqL (s:ByteArray):Int × Int:=zaeX (zaaa s 0) s
def oneS (s:ByteArray):Int × Int:=if 0<zagr s then (zae (s.extract 0 (zagr s).toNat),zagr s) else zaqL s
def lexG (s:ByteArray):Nat->Int->List Tk->Option Int × List Tk
 | 0,_,out=>(none,out)
 | f+1,i,out =>
  if i<s.size then
   if zac3 (zaaa s i.toNat)=true then lexG s f (i+1) out
   else
    let o:=oneS (s.extract i.toNat s.size)
    if o.1=0 then (some i,[])
    else lexG s f (i+o.2) (out++[⟨o.1,i,s.extract i.toNat (i+o.2).toNat⟩])
  else (none,out)
inductive LexR where
 | long
 | bad (at_:Int)
 | ok (ts:List Tk)
def lexS (s:ByteArray):LexR :=
 if 600<s.size then .long
 else match lexG s s.size 0 [] with
  | (some i,_) => .bad i
  | (none,ts) => .ok (ts++[⟨11,s.size,ByteArray.empty⟩])
end Go.TP
end
section
namespace Go.Proofs.YtpofhijgccocpaaGreatDoor
open Go.AS Go.TP
noncomputable section
noncomputable def fn (f:Nat):Func:=(Tryz.prog.funcs[f]?).getD default
noncomputable def code (f:Nat):Code:=((Tryz.prog.funcs[f]?).bind (·.body)).getD .skip
theorem fnOk (f:Nat)(h:(Tryz.prog.funcs[f]?).isSome=true):Tryz.prog.funcs[f]?=some (fn f):=zavu h
noncomputable def extF (f:FuncId):Option (Go.AS.Id->Nat->List AV->Hp->Option Res):=bsel (Nat.beq f zabH) (some (pureX Tryz.prog Extern.BytealgIndexByte.indexByte)) none
abbrev eSyn:ByteArray:=⟨#[105,110,118,97,108,105,100,32,115,121,110,116,97,120]⟩
abbrev eRan:ByteArray:=⟨#[118,97,108,117,101,32,111,117,116,32,111,102,32,114,97,110,103,101]⟩
noncomputable def zag5 (s:ByteArray):AV := .iface zafF (.ref (.agg [.lit (.string s)]))
def powL:List Int:=[1,10,100,1000,10000,100000,1000000,10000000,100000000,1000000000,10000000000,100000000000,1000000000000,10000000000000,100000000000000,1000000000000000,10000000000000000,100000000000000000,1000000000000000000,10000000000000000000]
noncomputable def powA:AV := .ref (.agg (powL.map fun z => .lit (.int .u64 z)))
noncomputable def gl0 (g:Nat):Option AV:=bsel (Nat.beq g zaeI) (some (.ref (zag5 eSyn))) (bsel (Nat.beq g zahX) (some (.ref (zag5 eRan))) (bsel (Nat.beq g gPow) (some powA) none))
noncomputable def X0:PX:={ P:=Tryz.prog,gl:=gl0,ext:=extF,own:=fun f d=>Nat.beq f zalo&&Nat.beq d 4,m:=100000 }
theorem zapO:IsExt Tryz.prog zabH (fn zabH) Extern.BytealgIndexByte.indexByte:=⟨fnOk _ (by kernel_rfl),by kernel_rfl,by kernel_rfl,by kernel_rfl,by kernel_rfl⟩
theorem zajj:X0.Sound:=by
 refine ⟨by kernel_rfl,fun g x h => ?_,fun f g h => ?_⟩
 · have h:bsel (Nat.beq g zaeI) (some (.ref (zag5 eSyn))) (bsel (Nat.beq g zahX) (some (.ref (zag5 eRan))) (bsel (Nat.beq g gPow) (some powA) none))=some x:=h
   cases hb:Nat.beq g zaeI
   · rw [hb,zaaO] at h
     cases hb2:Nat.beq g zahX
     · rw [hb2,zaaO] at h
       cases hb3:Nat.beq g gPow
       · rw [hb3,zaaO] at h; cases h
       · rw [hb3,zaa2] at h; cases h; intro M; rfl
     · rw [hb2,zaa2] at h; cases h; intro M; rfl
   · rw [hb,zaa2] at h; cases h; intro M; rfl
 · have h:bsel (Nat.beq f zabH) (some (pureX Tryz.prog Extern.BytealgIndexByte.indexByte)) none=some g:=h
   cases hb:Nat.beq f zabH
   · rw [hb,zaaO] at h; cases h
   · rw [hb,zaa2] at h; cases h
     obtain rfl:=Nat.eq_of_beq_eq_true hb
     exact zahu (C:=cx X0 zabH fun _ _ _ _ _=>none) zapO
noncomputable def XB:WX:=WX.base X0
theorem zabg:XB.Sound := .base zajj
noncomputable abbrev i0 (n:Int):AV := .lit (.int .i64 n)
noncomputable abbrev b0 (b:Bool):AV := .lit (.bool b)
noncomputable abbrev s0 (s:ByteArray):AV := .lit (.string s)
abbrev F (f:Nat)(xs:List AV)(r:AV):Prop:=FOk Tryz.prog gl0 f xs .nil ⟨r, .nil,[]⟩
def gF (X:WX)(fs:List Nat)(f:Nat)(os:Orc)(xs:List AV)(r:AV):Prop:=runF (X.ask fs) 12 f (fn f) (code f) os 0 [] xs .nil ⟨r, .nil,[]⟩
theorem F_ok {X:WX}(hX:X.Sound)(hp:X.px=X0){fs:List Nat}{f:Nat}(hs:(Tryz.prog.funcs[f]?).isSome=true)(hb:(fn f).body=some (code f))(hn:((fn f).name == "runtime.NumGoroutine")=false){os:Orc}{xs:List AV}{r:AV}(h:gF X fs f os xs r):F f xs r:=by
 have hP:X.px.P=Tryz.prog:=by rw [hp]; rfl
 have hg:X.px.gl=gl0:=by rw [hp]; rfl
 have:=zadS (X:=X.ask fs) (d:=12) (hX.ask fs) (f:=f) (fn:=fn f) (code:=code f) (by show X.px.P.funcs[f]?=_; rw [hP]; exact fnOk f hs) hb hn h
 show FOk Tryz.prog gl0 f xs .nil ⟨r, .nil,[]⟩
 rw [<-hg,<-hP]; exact this
noncomputable abbrev uu:AV := .lit (.tuple ⟨[]⟩)
abbrev HT (o:Orc):Orc := .t (.t (.t (.t o)))
abbrev HF (o:Orc):Orc := .f (.f (.f (.f o)))
abbrev eR (l:Nat)(i:Go.AS.Id)(n:Nat)(xs:List AV):Nat × Ent:=(l,⟨i, .row true n xs⟩)
abbrev Yt (p:Prop):Prop:=true=true/\p
abbrev Yt4 (p:Prop):Prop:=true=true/\true=true/\true=true/\true=true/\p
abbrev Nf (p:Prop):Prop:=false=false/\p
abbrev Nf4 (p:Prop):Prop:=false=false/\false=false/\false=false/\false=false/\p
abbrev U1 (x:List AV)(y:List (Nat × Ent))(p:Prop):Prop:=∃ (_:Unit),(True/\Wks x x/\hpL y=hpL y)/\p
abbrev hR (h:Nat->Int):List AV:=[.lit (.int .u8 (h 0)), .lit (.int .u8 (h 1)), .lit (.int .u8 (h 2)), .lit (.int .u8 (h 3)), .lit (.int .u8 (h 4)), .lit (.int .u8 (h 5)), .lit (.int .u8 (h 6)), .lit (.int .u8 (h 7)), .lit (.int .u8 (h 8)), .lit (.int .u8 (h 9)), .lit (.int .u8 (h 10)), .lit (.int .u8 (h 11)), .lit (.int .u8 (h 12)), .lit (.int .u8 (h 13)), .lit (.int .u8 (h 14)), .lit (.int .u8 (h 15)), .lit (.int .u8 (h 16)), .lit (.int .u8 (h 17)), .lit (.int .u8 (h 18)), .lit (.int .u8 (h 19)), .lit (.int .u8 (h 20)), .lit (.int .u8 (h 21)), .lit (.int .u8 (h 22)), .lit (.int .u8 (h 23)), .lit (.int .u8 (h 24)), .lit (.int .u8 (h 25)), .lit (.int .u8 (h 26)), .lit (.int .u8 (h 27)), .lit (.int .u8 (h 28)), .lit (.int .u8 (h 29)), .lit (.int .u8 (h 30)), .lit (.int .u8 (h 31))]
end
end Go.Proofs.YtpofhijgccocpaaGreatDoor
end
section
namespace Go.Proofs.YtpofhijgccocpaaGreatDoor
open Go.AS Go.TP
noncomputable section
theorem F_of {f n:Nat}{xs:List AV}{x:AV}{c':Nat}{ws':List Nat}(h:S X0 n f xs 1 .nil []=some (x,c', .nil,ws')):F f xs x:=by
 intro E w vals hg hh hf _ hv
 obtain ⟨_,h2⟩:=S_ok zajj n f xs 1 .nil [] x c' .nil ws' h
 refine (h2 E w vals hg hh hf hv).imp ?_
 rintro v w' ⟨E',k1,k2,k3,_⟩
 exact ⟨.z,_,E',rfl,⟨fun l _=>rfl,fun l e he=>⟨e,he⟩⟩,k1,k2,k3⟩
abbrev c0 (c:Nat):AV := .lit (.int .u8 c)
def isB (r:zahg)(b:Bool):Bool:=match r with
 | some (.lit (.bool a),_, .nil,_)=>a==b
 | _=>false
def isI (r:zahg)(n:Int):Bool:=match r with
 | some (.lit (.int .i64 a),_, .nil,_)=>decide (a=n)
 | _=>false
theorem zazD {f n:Nat}{xs:List AV}{b:Bool}(h:isB (S X0 n f xs 1 .nil []) b=true):F f xs (b0 b):=by
 unfold isB at h
 split at h
 · rename_i hs; rw [beq_iff_eq] at h; subst h; exact F_of hs
 · cases h
theorem zawK {f n:Nat}{xs:List AV}{a:Int}(h:isI (S X0 n f xs 1 .nil []) a=true):F f xs (i0 a):=by
 unfold isI at h
 split at h
 · rename_i hs; obtain rfl:=of_decide_eq_true h; exact F_of hs
 · cases h
theorem zalU {p:Nat->Bool}(h:(List.range 256).all p=true){c:Nat}(hc:c<256):p c=true:=List.all_eq_true.1 h c (List.mem_range.2 hc)
def blanks:ByteArray:=⟨#[32,9,10]⟩
def zaqx (c:Nat):Int:=if c=32 then 0 else if c=9 then 1 else if c=10 then 2 else -1
def zadj (c:Nat):Int:=if 48<=c/\c<=57 then c-48 else if 97<=c/\c<=102 then c-87 else -1
theorem zamN {c:Nat}(hc:c<256):F zalp [c0 c] (b0 (zaaI c)) :=
 zazD (n:=100) (zalU (p:=fun c=>isB (S X0 100 zalp [c0 c] 1 .nil []) (zaaI c)) (by kernel_rfl) hc)
theorem zaqq {c:Nat}(hc:c<256):F zaqo [c0 c] (i0 (zadj c)) :=
 zawK (n:=100) (zalU (p:=fun c=>isI (S X0 100 zaqo [c0 c] 1 .nil []) (zadj c)) (by kernel_rfl) hc)
theorem zaqw {c:Nat}(hc:c<256):F zalr [s0 blanks,c0 c] (i0 (zaqx c)) :=
 zawK (n:=100) (zalU (p:=fun c=>isI (S X0 100 zalr [s0 blanks,c0 c] 1 .nil []) (zaqx c)) (by kernel_rfl) hc)
def zakp:Sp := .pure Nat (fun c=>c<256) (fun c=>[c0 c]) (fun c=>b0 (zaaI c))
def zany:Sp := .pure Nat (fun c=>c<256) (fun c=>[c0 c]) (fun c=>i0 (zadj c))
def zanz:Sp := .pure Nat (fun c=>c<256) (fun c=>[s0 blanks,c0 c]) (fun c=>i0 (zaqx c))
end
end Go.Proofs.YtpofhijgccocpaaGreatDoor
end
section
namespace Go.Proofs.YtpofhijgccocpaaGreatDoor
open Go.AS Go.TP
noncomputable section
noncomputable def X1:WX:=((XB.add zalp (Sp.con [zakp])).add zaqo (Sp.con [zany])).add zalr (Sp.con [zanz])
end
end Go.Proofs.YtpofhijgccocpaaGreatDoor
end
section
namespace Go.Proofs.YtpofhijgccocpaaGreatDoor
open Go Go.AS Go.TP
end Go.Proofs.YtpofhijgccocpaaGreatDoor
end
section
namespace Go.Proofs.YtpofhijgccocpaaGreatDoor
open Go.AS Go.TP
noncomputable section
theorem zaoa {f:Nat}{s:Sp}(h:∀ i,s.pre i->FOk Tryz.prog gl0 f (s.args i) (s.heap i) (s.out i)):zagn Tryz.prog gl0 f (Sp.con [s]):=Sp.one h
theorem zaz7:X1.Sound:=((zabg.add (zaoa (s:=zakp) fun _ h=>zamN h)).add (zaoa (s:=zany) fun _ h=>zaqq h)).add (zaoa (s:=zanz) fun _ h=>zaqw h)
theorem zaot (s:ByteArray):∀ (f:Nat) (n:Int),n<=s.size->n<=zadL s f n/\zadL s f n<=s.size:=by
 intro f
 induction f with
 | zero=>intro n h; exact ⟨Int.le_refl _,h⟩
 | succ f ih =>
  intro n h
  rw [zadL]
  split
  · rename_i h1; have:=ih (n+1) (by omega); omega
  · exact ⟨Int.le_refl _,h⟩
theorem zaj3 (s:ByteArray):0<=zagr s/\zagr s<=s.size:=zaot s s.size 0 (by omega)
end
end Go.Proofs.YtpofhijgccocpaaGreatDoor
end
section
namespace Go.Proofs.YtpofhijgccocpaaGreatDoor
open Go.AS Go.TP
noncomputable section
def encT (t:Tk):AV := .agg [i0 t.kind,i0 t.at_,s0 t.text]
def zabn (ys:List AV):Hp:=hpL [(1048577,⟨[0,0], .row true 3 ys⟩)]
end
end Go.Proofs.YtpofhijgccocpaaGreatDoor
end
section
namespace Go.Proofs.YtpofhijgccocpaaGreatDoor
open Go Go.AS Go.TP
end Go.Proofs.YtpofhijgccocpaaGreatDoor
end
section
namespace Go.Proofs.YtpofhijgccocpaaGreatDoor
open Go.AS Go.TP
noncomputable section
theorem zaf8 {s p:ByteArray}(h:hasP s p=true):p.size<=s.size:=by
 unfold hasP at h
 rw [Bool.and_eq_true] at h
 exact of_decide_eq_true h.1
theorem zaru (s:ByteArray)(h0:0<s.size)(h:(zaqL s).1≠0):1<=(zaqL s).2/\(zaqL s).2<=s.size:=by
 unfold zaqL zaeX at h ⊢
 generalize zaaa s 0=c at h ⊢
 have e1:bCC.size=2:=rfl
 have e2:bDD.size=2:=rfl
 have h1:(1:Int)<=s.size:=by omega
 by_cases k1:c=58
 · rw [if_pos k1] at h ⊢
   by_cases k2:hasP s bCC=true
   · have:=zaf8 k2
     rw [if_pos k2]; constructor
     · show (1:Int)<=2; omega
     · show (2:Int)<=s.size; omega
   · rw [if_neg k2] at h ⊢
     by_cases k3:hasP s bDD=true
     · have:=zaf8 k3
       rw [if_pos k3]; constructor
       · show (1:Int)<=2; omega
       · show (2:Int)<=s.size; omega
     · rw [if_neg k3] at h; exact absurd rfl h
 rw [if_neg k1] at h ⊢
 by_cases k1:c=46
 · rw [if_pos k1] at h ⊢
   by_cases k3:hasP s bDD=true
   · have:=zaf8 k3
     rw [if_pos k3]; constructor
     · show (1:Int)<=2; omega
     · show (2:Int)<=s.size; omega
   · rw [if_neg k3] at h; exact absurd rfl h
 rw [if_neg k1] at h ⊢
 by_cases k:c=40
 · rw [if_pos k]; exact ⟨Int.le_refl _,h1⟩
 rw [if_neg k] at h ⊢
 by_cases k:c=41
 · rw [if_pos k]; exact ⟨Int.le_refl _,h1⟩
 rw [if_neg k] at h ⊢
 by_cases k:c=44
 · rw [if_pos k]; exact ⟨Int.le_refl _,h1⟩
 rw [if_neg k] at h ⊢
 by_cases k:c=43∨c=124
 · rw [if_pos k]; exact ⟨Int.le_refl _,h1⟩
 rw [if_neg k] at h ⊢
 by_cases k:c=45
 · rw [if_pos k]; exact ⟨Int.le_refl _,h1⟩
 rw [if_neg k] at h ⊢
 by_cases k:c=38
 · rw [if_pos k]; exact ⟨Int.le_refl _,h1⟩
 rw [if_neg k] at h ⊢
 by_cases k:c=33
 · rw [if_pos k]; exact ⟨Int.le_refl _,h1⟩
 rw [if_neg k] at h ⊢
 exact absurd rfl h
theorem zasl (s:ByteArray)(h0:0<s.size)(h:(oneS s).1≠0):1<=(oneS s).2/\(oneS s).2<=s.size:=by
 unfold oneS at h ⊢
 have hw:=zaj3 s
 by_cases k:0<zagr s
 · rw [if_pos k]; exact ⟨by show (1:Int)<=zagr s; omega,hw.2⟩
 · rw [if_neg k] at h ⊢; exact zaru s h0 h
abbrev zabh (s:ByteArray)(i:Int):ByteArray:=s.extract i.toNat s.size
theorem zac (s:ByteArray)(i:Int)(h0:0<=i)(h1:i<=s.size):((zabh s i).size:Int)=s.size-i:=by
 rw [ByteArray.size_extract]; omega
abbrev zanr (s:ByteArray)(i:Int):Tk:=⟨(oneS (zabh s i)).1,i,s.extract i.toNat (i+(oneS (zabh s i)).2).toNat⟩
end
end Go.Proofs.YtpofhijgccocpaaGreatDoor
end
section
namespace Go.Proofs.YtpofhijgccocpaaGreatDoor
open Go.AS Go.TP
noncomputable section
theorem zadz (s:ByteArray):∀ (f:Nat) (i:Int) (out ts:List Tk),0<=i->i<=s.size->lexG s f i out=(none,ts)->(ts.length:Int)<=out.length+(s.size-i):=by
 intro f
 induction f with
 | zero=>intro i out ts h0 h2 h; cases h; omega
 | succ f ih =>
  intro i out ts h0 h2 h
  rw [lexG] at h
  by_cases hi:i<s.size
  · rw [if_pos hi] at h
    have hr:=zac s i h0 h2
    by_cases hb:zac3 (zaaa s i.toNat)=true
    · rw [if_pos hb] at h
      have:=ih (i+1) out ts (by omega) (by omega) h
      omega
    · rw [if_neg hb] at h
      have h:(if (oneS (zabh s i)).1=0 then (some i,[]) else lexG s f (i+(oneS (zabh s i)).2) (out++[zanr s i]))=(none,ts):=h
      by_cases ho:(oneS (zabh s i)).1=0
      · rw [if_pos ho] at h; cases h
      · rw [if_neg ho] at h
        have k3:=zasl (zabh s i) (by omega) ho
        have:=ih _ _ ts (by omega) (by omega) h
        rw [List.length_append,List.length_singleton] at this
        omega
  · rw [if_neg hi] at h; cases h; omega
end
end Go.Proofs.YtpofhijgccocpaaGreatDoor
end
section
namespace Go.Proofs.YtpofhijgccocpaaGreatDoor
open Go Go.AS Go.TP
end Go.Proofs.YtpofhijgccocpaaGreatDoor
end
section
namespace Go.Proofs.YtpofhijgccocpaaGreatDoor
open Go.AS Go.TP
noncomputable section
end
end Go.Proofs.YtpofhijgccocpaaGreatDoor
end
section
namespace Go.Proofs
open Go.Shelf
def Tryz.laysM171_ren:Go.Shelf.Ren:=⟨fun | 171=>111 | 243=>128 | 246=>140 | 283=>149 | 284=>150 | 285=>151 | 286=>152 | 129=>159 | 317=>158 | 318=>160 | 319=>161 | 320=>162 | 337=>166 | 338=>167 | n=>n,fun | 3=>3 | 9=>9 | 2=>2 | 4=>4 | 171=>189 | 0=>0 | 53=>190 | 37=>130 | 5=>5 | 173=>193 | 212=>197 | 51=>198 | 20=>20 | 213=>199 | 46=>200 | 232=>158 | 233=>206 | n=>n,fun | 17=>2 | 18=>3 | 19=>4 | n=>n⟩
theorem Tryz.laysM171:Go.Proofs.LaysM.n171 Tryz.prog Tryz.laysM171_ren:={
 mixed:=by kernel_rfl
 f129:=Tryz.func159.trans (congrArg some (by kernel_rfl))
 f171:=Tryz.func111.trans (congrArg some (by kernel_rfl))
 f243:=Tryz.func128.trans (congrArg some (by kernel_rfl))
 f246:=Tryz.func140.trans (congrArg some (by kernel_rfl))
 f283:=Tryz.func149.trans (congrArg some (by kernel_rfl))
 f284:=Tryz.func150.trans (congrArg some (by kernel_rfl))
 f285:=Tryz.func151.trans (congrArg some (by kernel_rfl))
 f286:=Tryz.func152.trans (congrArg some (by kernel_rfl))
 f317:=Tryz.func158.trans (congrArg some (by kernel_rfl))
 f318:=Tryz.func160.trans (congrArg some (by kernel_rfl))
 f319:=Tryz.func161.trans (congrArg some (by kernel_rfl))
 f320:=Tryz.func162.trans (congrArg some (by kernel_rfl))
 f337:=Tryz.func166.trans (congrArg some (by kernel_rfl))
 f338:=Tryz.func167.trans (congrArg some (by kernel_rfl))
 t0:=Tryz.underlying0
 a0:=Tryz.isAgg0
 z0:=Tryz.sizeOf0
 v0:=Tryz.zeroValue0
 t2:=Tryz.underlying2
 a2:=Tryz.isAgg2
 z2:=Tryz.sizeOf2
 v2:=Tryz.zeroValue2
 t3:=Tryz.underlying3
 a3:=Tryz.isAgg3
 z3:=Tryz.sizeOf3
 v3:=Tryz.zeroValue3
 t4:=Tryz.underlying4
 a4:=Tryz.isAgg4
 z4:=Tryz.sizeOf4
 v4:=Tryz.zeroValue4
 t5:=Tryz.underlying5
 a5:=Tryz.isAgg5
 z5:=Tryz.sizeOf5
 v5:=Tryz.zeroValue5
 t9:=Tryz.underlying9
 a9:=Tryz.isAgg9
 z9:=Tryz.sizeOf9
 v9:=Tryz.zeroValue9
 t20:=Tryz.underlying20
 a20:=Tryz.isAgg20
 z20:=Tryz.sizeOf20
 v20:=Tryz.zeroValue20
 t37:=Tryz.underlying130
 a37:=Tryz.isAgg130
 z37:=Tryz.sizeOf130
 v37:=Tryz.zeroValue130
 t46:=Tryz.underlying200
 a46:=Tryz.isAgg200
 z46:=Tryz.sizeOf200
 v46:=Tryz.zeroValue200
 t51:=Tryz.underlying198
 a51:=Tryz.isAgg198
 z51:=Tryz.sizeOf198
 v51:=Tryz.zeroValue198
 t53:=Tryz.underlying190
 a53:=Tryz.isAgg190
 z53:=Tryz.sizeOf190
 v53:=Tryz.zeroValue190
 t171:=Tryz.underlying189
 a171:=Tryz.isAgg189
 z171:=Tryz.sizeOf189
 v171:=Tryz.zeroValue189
 t173:=Tryz.underlying193
 a173:=Tryz.isAgg193
 z173:=Tryz.sizeOf193
 v173:=Tryz.zeroValue193
 t212:=Tryz.underlying197
 a212:=Tryz.isAgg197
 z212:=Tryz.sizeOf197
 v212:=Tryz.zeroValue197
 t213:=Tryz.underlying199
 a213:=Tryz.isAgg199
 z213:=Tryz.sizeOf199
 t232:=Tryz.underlying158
 a232:=Tryz.isAgg158
 z232:=Tryz.sizeOf158
 v232:=Tryz.zeroValue158
 t233:=Tryz.underlying206
 a233:=Tryz.isAgg206
 z233:=Tryz.sizeOf206
 v233:=Tryz.zeroValue206
 g17:=by kernel_rfl
 g18:=by kernel_rfl
 g19:=by kernel_rfl
 i0:=by kernel_rfl
 i2:=by kernel_rfl
 i3:=by kernel_rfl
 i4:=by kernel_rfl
 i5:=by kernel_rfl
 i9:=by kernel_rfl
 i20:=by kernel_rfl
 i37:=by kernel_rfl
 i46:=by kernel_rfl
 i51:=by kernel_rfl
 i53:=by kernel_rfl
 i171:=by kernel_rfl
 i173:=by kernel_rfl
 i212:=by kernel_rfl
 i232:=by kernel_rfl
 i233:=by kernel_rfl
 m17:=by kernel_rfl
 m18:=by kernel_rfl
 m19:=by kernel_rfl }
open Go.RowKit Go.Sort Go.Lib in
theorem Tryz.strconv_Itoa (n:Int)(h0 : -9223372036854775808<=n)(h1:n<=9223372036854775807)(w:World)(htab:Lib.TabIs Tryz.prog w "internal/strconv.uint64pow10" .u64 Lib.pow10Tab) :
  Calls Tryz.prog 111 #[.int .i64 n] w fun e w'=>e = .returned (.string ⟨(Lib.itoa n).toArray⟩)/\∃ k os,w'=grow (w.drewN k) os:=Any.strconv_Itoa Tryz.laysM171 n h0 h1 w htab
end Go.Proofs
end
section
namespace Go.Proofs.YtpofhijgccocpaaGreatDoor
open Go.AS Go.TP
noncomputable section
def zaxA (s:ByteArray):AV := .lst false 1 (s.data.toList.map zadI)
def zadb (x:ByteArray)(i:Int):List AV:=[s0 x,zaxA x,i0 x.size,i0 i]
def zagG (x:ByteArray):Ex × Back:=(.exit 0,⟨.tup [s0 x], .nil,[]⟩)
def zahv:Ex × Back:=(.ret,⟨.tup [b0 false], .nil,[]⟩)
def zanK:Ex->List Nat
 | .ret=>[2]
 | _=>[0]
abbrev zapF (P:Prop)(x:ByteArray)(i:Int)(r:Ex × Back):Lp:=Lp1 [0,6,7,8] [] zanK P (zadb x i) .nil r
noncomputable def XP:WX:=(X1.ask [zaah]).askAt zaah [10,11]
def rPre (os:Orc)(P:Prop)(x:ByteArray)(i:Int)(r r':Ex × Back):Prop :=
 runL XP 8 zaah (fn zaah).ntmps (zabw (code zaah) 0) (zapF P x (i+1) r') (zapF P x (i+1) r') os 0 [] (zadb x i) .nil r
def zaxV (os:Orc)(P:Prop)(x:ByteArray)(i:Int):Prop:=rPre os P x i (zagG x) (zagG x)
def zaxU (os:Orc)(P:Prop)(x:ByteArray)(i:Int):Prop:=rPre os P x i zahv zahv
def zaxX (os:Orc)(P:Prop)(x:ByteArray)(i:Int):Prop:=rPre os P x i (zagG x) (zagG x)
def zaxW (os:Orc)(P:Prop)(x:ByteArray)(i:Int):Prop:=rPre os P x i zahv zahv
def gPre (os:Orc)(x:ByteArray)(q:Ex × Back)(b:Bool):Prop :=
 runF ((X1.addLp zaah 0 (zapF True x 0 q)).ask [zaah]) 10 zaah (fn zaah) (code zaah) os 0 [] [s0 x] .nil ⟨b0 b, .nil,[]⟩
def zazM (os:Orc)(x:ByteArray):Prop:=gPre os x zahv false
def zazN (os:Orc)(x:ByteArray)(b:Bool):Prop:=gPre os x (zagG x) b
end
end Go.Proofs.YtpofhijgccocpaaGreatDoor
end
section
namespace Go.Proofs.YtpofhijgccocpaaGreatDoor
open Go Go.AS Go.TP
theorem zaoL (P:Prop)(x:ByteArray)(i:Int):zaxV (Orc.f Orc.z) P x i=(decide (i<(↑(ByteArray.size x):Int))=false/\Ex.exit 0=Ex.exit 0/\Wk (AV.tup [s0 x]) (AV.tup [s0 x])/\SameH (hpL []) (hpL [])):=by kernel_rfl
theorem zaoJ (P:Prop)(x:ByteArray)(i:Int):zaxU (Orc.t (Orc.t Orc.z)) P x i=(decide (i<(↑(ByteArray.size x):Int))=true/\(decide ((0:Int)<=i/\i<(↑(List.length (List.map zadI (Array.toList (ByteArray.data x)))):Int))&&(true&&(zaak (Cx.B (cxV XP 8 zaah)) shN 5 (List.getD (List.map zadI (Array.toList (ByteArray.data x))) (Int.toNat i) uu)&&(false||true))))=true/\∃ (i1:Nat),(i1<256/\Wks [AV.lit (Value.int IntKind.u8 (intA (List.getD (List.map zadI (Array.toList (ByteArray.data x))) (Int.toNat i) uu)))] [AV.lit (Value.int IntKind.u8 (↑i1:Int))]/\hpL []=hpL [])/\decide (zadj i1<0)=true/\Ex.ret=Ex.ret/\Wk (AV.tup [AV.lit (Value.bool false)]) (AV.tup [AV.lit (Value.bool false)])/\SameH (hpL []) (hpL [])):=by kernel_rfl
theorem zaoO (P:Prop)(x:ByteArray)(i:Int):zaxX (Orc.t (Orc.f Orc.z)) P x i=(decide (i<(↑(ByteArray.size x):Int))=true/\(decide ((0:Int)<=i/\i<(↑(List.length (List.map zadI (Array.toList (ByteArray.data x)))):Int))&&(true&&(zaak (Cx.B (cxV XP 8 zaah)) shN 5 (List.getD (List.map zadI (Array.toList (ByteArray.data x))) (Int.toNat i) uu)&&(false||true))))=true/\∃ (i1:Nat),(i1<256/\Wks [AV.lit (Value.int IntKind.u8 (intA (List.getD (List.map zadI (Array.toList (ByteArray.data x))) (Int.toNat i) uu)))] [AV.lit (Value.int IntKind.u8 (↑i1:Int))]/\hpL []=hpL [])/\decide (zadj i1<0)=false/\inR IntKind.i64 (i+1)=true/\∃ (_:Unit),(P/\Wks [AV.lit (Value.string x),AV.lst false 1 (List.map zadI (Array.toList (ByteArray.data x))),AV.lit (Value.int IntKind.i64 (↑(ByteArray.size x):Int)),AV.lit (Value.int IntKind.i64 (i+1))] [AV.lit (Value.string x),AV.lst false 1 (List.map zadI (Array.toList (ByteArray.data x))),AV.lit (Value.int IntKind.i64 (↑(ByteArray.size x):Int)),AV.lit (Value.int IntKind.i64 (i+1))]/\hpL []=hpL [])/\Ex.exit 0=Ex.exit 0/\Wk (AV.tup [AV.lit (Value.string x)]) (AV.tup [AV.lit (Value.string x)])/\SameH (hpL []) (hpL [])):=by kernel_rfl
theorem zaoM (P:Prop)(x:ByteArray)(i:Int):zaxW (Orc.t (Orc.f Orc.z)) P x i=(decide (i<(↑(ByteArray.size x):Int))=true/\(decide ((0:Int)<=i/\i<(↑(List.length (List.map zadI (Array.toList (ByteArray.data x)))):Int))&&(true&&(zaak (Cx.B (cxV XP 8 zaah)) shN 5 (List.getD (List.map zadI (Array.toList (ByteArray.data x))) (Int.toNat i) uu)&&(false||true))))=true/\∃ (i1:Nat),(i1<256/\Wks [AV.lit (Value.int IntKind.u8 (intA (List.getD (List.map zadI (Array.toList (ByteArray.data x))) (Int.toNat i) uu)))] [AV.lit (Value.int IntKind.u8 (↑i1:Int))]/\hpL []=hpL [])/\decide (zadj i1<0)=false/\inR IntKind.i64 (i+1)=true/\∃ (_:Unit),(P/\Wks [AV.lit (Value.string x),AV.lst false 1 (List.map zadI (Array.toList (ByteArray.data x))),AV.lit (Value.int IntKind.i64 (↑(ByteArray.size x):Int)),AV.lit (Value.int IntKind.i64 (i+1))] [AV.lit (Value.string x),AV.lst false 1 (List.map zadI (Array.toList (ByteArray.data x))),AV.lit (Value.int IntKind.i64 (↑(ByteArray.size x):Int)),AV.lit (Value.int IntKind.i64 (i+1))]/\hpL []=hpL [])/\Ex.ret=Ex.ret/\Wk (AV.tup [AV.lit (Value.bool false)]) (AV.tup [AV.lit (Value.bool false)])/\SameH (hpL []) (hpL [])):=by kernel_rfl
theorem zapZ (x:ByteArray):zazM (Orc.z) x=(true=true/\∃ (_:Unit),(True/\Wks [AV.lit (Value.string x),AV.lst false 1 (List.map zadI (Array.toList (ByteArray.data x))),AV.lit (Value.int IntKind.i64 (↑(List.length (List.map zadI (Array.toList (ByteArray.data x)))):Int)),AV.lit (Value.int IntKind.i64 0)] [AV.lit (Value.string x),AV.lst false 1 (List.map zadI (Array.toList (ByteArray.data x))),AV.lit (Value.int IntKind.i64 (↑(ByteArray.size x):Int)),AV.lit (Value.int IntKind.i64 0)]/\hpL []=hpL [])/\Wk (AV.lit (Value.bool false)) (AV.lit (Value.bool false))/\SameH (hpL []) (hpL [])):=by kernel_rfl
def zaso:Orc:=Orc.s (Orc.t (Orc.t Orc.z)) (Orc.f (Orc.f Orc.z))
theorem zap1 (x:ByteArray)(b:Bool):zazN zaso x b=(true=true/\∃ (_:Unit),(True/\Wks [AV.lit (Value.string x),AV.lst false 1 (List.map zadI (Array.toList (ByteArray.data x))),AV.lit (Value.int IntKind.i64 (↑(List.length (List.map zadI (Array.toList (ByteArray.data x)))):Int)),AV.lit (Value.int IntKind.i64 0)] [AV.lit (Value.string x),AV.lst false 1 (List.map zadI (Array.toList (ByteArray.data x))),AV.lit (Value.int IntKind.i64 (↑(ByteArray.size x):Int)),AV.lit (Value.int IntKind.i64 0)]/\hpL []=hpL [])/\((!ByteArray.toList x==ByteArray.toList ⟨⟨[]⟩⟩)=true->true=true/\true=true/\Wk (AV.lit (Value.bool (decide ((↑(ByteArray.size x):Int)<=64)))) (AV.lit (Value.bool b))/\SameH (hpL []) (hpL []))/\((!ByteArray.toList x==ByteArray.toList ⟨⟨[]⟩⟩)=false->false=false/\false=false/\Wk (AV.lit (Value.bool false)) (AV.lit (Value.bool b))/\SameH (hpL []) (hpL []))):=by kernel_rfl
end Go.Proofs.YtpofhijgccocpaaGreatDoor
end
section
namespace Go.Proofs.YtpofhijgccocpaaGreatDoor
open Go.AS Go.TP
noncomputable section
theorem zahz (x:ByteArray){i:Int}(h0:0<=i)(h:i<x.size)(d:AV):(x.data.toList.map zadI).getD i.toNat d=c0 (zaaa x i.toNat):=by
 have hl:i.toNat<x.data.toList.length:=by rw [Array.length_toList]; have:x.data.size=x.size:=rfl; omega
 have hl':i.toNat<x.data.size:=by rw [<-Array.length_toList]; exact hl
 rw [List.getD_eq_getElem?_getD,List.getElem?_map,List.getElem?_eq_getElem hl]
 unfold zaaa
 rw [Array.getD_eq_getD_getElem?,Array.getElem?_eq_getElem hl']
 rfl
theorem zadn (x:ByteArray):(x.data.toList.map zadI).length=x.size:=by rw [List.length_map,Array.length_toList]; rfl
theorem zawu (n:Int):zaak (Cx.B (cxV XP 8 zaah)) shN 5 (.lit (.int .u8 n))=true:=by kernel_rfl
def zaa0 (p:UInt8->Bool)(x:ByteArray)(i:Int):Bool:=(x.data.toList.drop i.toNat).all p
theorem zabf {p:UInt8->Bool}{x:ByteArray}{i:Int}(h:¬i<x.size):zaa0 p x i=true:=by
 unfold zaa0
 rw [List.drop_of_length_le (by rw [Array.length_toList]; have:x.data.size=x.size:=rfl; omega)]; rfl
theorem zacg {p:UInt8->Bool}{q:Nat->Bool}(hq:∀ c:UInt8,p c=q c.toNat){x:ByteArray}{i:Int}(h0:0<=i)(h:i<x.size):zaa0 p x i=(q (zaaa x i.toNat)&&zaa0 p x (i+1)):=by
 unfold zaa0
 have hl:i.toNat<x.data.toList.length:=by rw [Array.length_toList]; have:x.data.size=x.size:=rfl; omega
 have hl':i.toNat<x.data.size:=by rw [<-Array.length_toList]; exact hl
 have e:(i+1).toNat=i.toNat+1:=by omega
 rw [List.drop_eq_getElem_cons hl,List.all_cons,hq,e]
 congr 2
 unfold zaaa
 rw [Array.getD_eq_getD_getElem?,Array.getElem?_eq_getElem hl']; rfl
def digQ (c:Nat):Bool:=decide (48<=c)&&decide (c<=57)
def hexQ (c:Nat):Bool:=(decide (48<=c)&&decide (c<=57))||(decide (97<=c)&&decide (c<=102))
theorem zavF (c:UInt8):zadV c=digQ c.toNat:=rfl
theorem zak5 (c:UInt8):zadB c=hexQ c.toNat:=rfl
theorem zab5 {c:Nat}:zadj c<0↔hexQ c=false:=by
 unfold zadj hexQ
 by_cases h1:48<=c/\c<=57
 · rw [if_pos h1]; simp [h1.1,h1.2]; omega
 · rw [if_neg h1]
   by_cases h2:97<=c/\c<=102
   · rw [if_pos h2]; simp [h2.1,h2.2]; omega
   · rw [if_neg h2]; simp; omega
theorem zaj8 (x:ByteArray):(!ByteArray.toList x==ByteArray.toList { data:={ toList:=[] } })=decide (0<x.size):=by
 show (!ByteArray.toList x==ByteArray.toList ByteArray.empty)=_
 rw [ByteArray.toList_eq,ByteArray.toList_eq]
 show (!(x.data.toList==[]))=_
 by_cases h:0<x.size
 · rw [decide_eq_true h]
   have:x.data.toList≠[]:=fun e=>by
     have h2:x.data.toList.length=x.size:=by rw [Array.length_toList]; rfl
     rw [e] at h2; simp at h2; omega
   rw [beq_eq_false_iff_ne.2 this]; rfl
 · rw [decide_eq_false h]
   have h2:x.data.toList.length=x.size:=by rw [Array.length_toList]; rfl
   have:x.data.toList=[]:=List.eq_nil_of_length_eq_zero (by omega)
   simp [this]
theorem zakw {P:Prop}{x:ByteArray}{i:Int}(h:¬i<x.size):zaxV (Orc.f Orc.z) P x i:=by
 rw [zaoL]; exact ⟨decide_eq_false h,rfl, .refl _, .rfl⟩
theorem zaoK {P:Prop}{x:ByteArray}{i:Int}(h0:0<=i)(h:i<x.size)(hd:hexQ (zaaa x i.toNat)=false):zaxU (Orc.t (Orc.t Orc.z)) P x i:=by
 rw [zaoJ,zahz x h0 h,zadn]
 refine ⟨decide_eq_true h,?_,_,⟨zaaS x i.toNat, .refl _,rfl⟩,decide_eq_true (zab5.2 hd),rfl, .refl _, .rfl⟩
 rw [decide_eq_true ⟨h0,h⟩,zawu]; rfl
theorem zaoP {P:Prop}{x:ByteArray}{i:Int}(hx:x.size<=1000000)(h0:0<=i)(h:i<x.size)(hd:hexQ (zaaa x i.toNat)=true)(hP:P):zaxX (Orc.t (Orc.f Orc.z)) P x i:=by
 rw [zaoO,zahz x h0 h,zadn]
 refine ⟨decide_eq_true h,?_,_,⟨zaaS x i.toNat, .refl _,rfl⟩,decide_eq_false (fun k=>by rw [zab5.1 k] at hd; cases hd),zaao (by omega) (by omega),(),⟨hP, .refl _,rfl⟩,rfl, .refl _, .rfl⟩
 rw [decide_eq_true ⟨h0,h⟩,zawu]; rfl
theorem zaoN {P:Prop}{x:ByteArray}{i:Int}(hx:x.size<=1000000)(h0:0<=i)(h:i<x.size)(hd:hexQ (zaaa x i.toNat)=true)(hP:P):zaxW (Orc.t (Orc.f Orc.z)) P x i:=by
 rw [zaoM,zahz x h0 h,zadn]
 refine ⟨decide_eq_true h,?_,_,⟨zaaS x i.toNat, .refl _,rfl⟩,decide_eq_false (fun k=>by rw [zab5.1 k] at hd; cases hd),zaao (by omega) (by omega),(),⟨hP, .refl _,rfl⟩,rfl, .refl _, .rfl⟩
 rw [decide_eq_true ⟨h0,h⟩,zawu]; rfl
abbrev BPre (xs:List AV)(r:Ex × Back):Prop:=zadp Tryz.prog gl0 (fn zaah).ntmps (zabw (code zaah) 0) [0,6,7,8] zanK xs .nil fun _ q=>q=r
theorem zaAR:XP.Sound:=(zaz7.ask _).askAt _ _
set_option maxRecDepth 100000 in
theorem zaeo {os:Orc}{P:Prop}{x:ByteArray}{i:Int}{r r':Ex × Back}(ih:P->BPre (zadb x (i+1)) r')(h:rPre os P x i r r'):BPre (zadb x i) r :=
 zaf1 (X:=XP) zaAR (f:=zaah) (fn:=fn zaah) (code:=code zaah) (fnOk zaah (by kernel_rfl)) (show (fn zaah).body=some (code zaah) by kernel_rfl) (L:=zapF P x (i+1) r') (L':=zapF P x (i+1) r') (l:=[⟨Unit,fun _=>P,fun _=>zadb x (i+1),fun _ => .nil,fun _=>r'⟩]) rfl (show ([0,6,7,8]:List Nat).Nodup by decide)
  (fun s' hs' q hq=>by obtain rfl:=List.mem_singleton.1 hs'; exact ih hq) h
attribute [local irreducible] runL in
set_option maxRecDepth 100000 in
theorem preL (x:ByteArray)(hx:x.size<=1000000):∀ (f:Nat) (i:Int),0<=i->x.size-i<=f->BPre (zadb x i) (if zaa0 zadB x i=true then zagG x else zahv):=by
 intro f
 induction f with
 | zero=>intro i h0 h1; rw [if_pos (zabf (by omega))]; exact zaeo (P:=False) (r':=zagG x) (fun h=>h.elim) (zakw (by omega))
 | succ f ih =>
  intro i h0 h1
  by_cases hi:i<x.size
  · have ih:=ih (i+1) (by omega) (by omega)
    rw [zacg zak5 h0 hi]
    cases hd:hexQ (zaaa x i.toNat) with
    | false=>rw [Bool.false_and,if_neg (by decide)]; exact zaeo (P:=False) (r':=zahv) (fun h=>h.elim) (zaoK h0 hi hd)
    | true =>
      rw [Bool.true_and]
      by_cases ha:zaa0 zadB x (i+1)=true
      · rw [if_pos ha] at ih ⊢; exact zaeo (P:=True) (fun _=>ih) (zaoP hx h0 hi hd trivial)
      · rw [if_neg ha] at ih ⊢; exact zaeo (P:=True) (fun _=>ih) (zaoN hx h0 hi hd trivial)
  · rw [if_pos (zabf hi)]; exact zaeo (P:=False) (r':=zagG x) (fun h=>h.elim) (zakw hi)
set_option maxRecDepth 100000 in
theorem zawA {x:ByteArray}{q:Ex × Back}(h:BPre (zadb x 0) q):(X1.addLp zaah 0 (zapF True x 0 q)).Sound :=
 zaz7.addLp (fnOk zaah (by kernel_rfl)) (show (fn zaah).body=some (code zaah) by kernel_rfl) (by kernel_rfl)
  (Spl.ok (l:=[⟨Unit,fun _=>True,fun _=>zadb x 0,fun _ => .nil,fun _=>q⟩]) rfl (show ([0,6,7,8]:List Nat).Nodup by decide) fun s' hs' i _=>by obtain rfl:=List.mem_singleton.1 hs'; exact h)
attribute [local irreducible] runF in
set_option maxRecDepth 100000 in
theorem zayp {x:ByteArray}{q:Ex × Back}{os:Orc}{b:Bool}(h:BPre (zadb x 0) q)(hg:gPre os x q b):F zaah [s0 x] (b0 b) :=
 zadS (X:=(X1.addLp zaah 0 (zapF True x 0 q)).ask [zaah]) (d:=10) ((zawA h).ask _) (f:=zaah) (fn:=fn zaah) (code:=code zaah) (fnOk zaah (by kernel_rfl)) (show (fn zaah).body=some (code zaah) by kernel_rfl) (by kernel_rfl) hg
theorem zap0 (x:ByteArray):zazM Orc.z x:=by
 rw [zapZ,zadn]; exact ⟨rfl,(),⟨trivial, .refl _,rfl⟩, .refl _, .rfl⟩
theorem zap2 (x:ByteArray):zazN zaso x (decide (0<x.size)&&decide (x.size<=64)):=by
 rw [zap1,zadn,zaj8]
 refine ⟨rfl,(),⟨trivial, .refl _,rfl⟩,fun h => ?_,fun h => ?_⟩
 · rw [h]
   refine ⟨rfl,rfl, .of_eq ?_, .rfl⟩
   rw [Bool.true_and]; congr 3
   exact propext ⟨fun h=>by omega,fun h=>by omega⟩
 · rw [h]; exact ⟨rfl,rfl, .refl _, .rfl⟩
attribute [local irreducible] runF runL in
set_option maxRecDepth 100000 in
theorem zaju (x:ByteArray)(hx:x.size<=1000000):F zaah [s0 x] (b0 (zaar x)):=by
 have h:=preL x hx x.size 0 (Int.le_refl _) (by omega)
 have e:zaar x=(zaa0 zadB x 0&&(decide (0<x.size)&&decide (x.size<=64))):=by
  unfold zaar zaa0; rw [show (0:Int).toNat=0 from rfl,List.drop_zero,Bool.and_assoc]
 rw [e]
 cases ha:zaa0 zadB x 0 with
 | true=>rw [ha,if_pos rfl] at h; rw [Bool.true_and]; exact zayp h (zap2 x)
 | false=>rw [ha,if_neg (by decide)] at h; rw [Bool.false_and]; exact zayp h (zap0 x)
theorem zaqs {c:Nat}(h:digQ c=true):48<=c/\c<=57:=by
 unfold digQ at h; rw [Bool.and_eq_true] at h; exact ⟨of_decide_eq_true h.1,of_decide_eq_true h.2⟩
end
end Go.Proofs.YtpofhijgccocpaaGreatDoor
end
section
namespace Go.Proofs.YtpofhijgccocpaaGreatDoor
open Go.AS Go.TP Go.RowKit
noncomputable section
theorem zajw {E:Env}{w w':World}(h:Holds E .nil w)(hb:Below w.heap.size w w'):Holds E .nil w'/\Adv E .nil w E .nil w' :=
 ⟨⟨fun b o hm=>by
   have:=h.imm b o hm
   rw [hb.block b]; exact this
   cases hl:w.heap[b]? with
   | none=>rw [hl] at this; cases this
   | some _=>exact (Array.getElem?_eq_some_iff.1 hl).1,
  fun l e he=>(by rw [zaaz] at he; cases he),fun b hb=>(zapC hb).elim,fun l l' e e' L L' b h1=>(by rw [zaaz] at h1; cases h1)⟩,
  ⟨E.le_refl,hb.os,hb.tape,hb.output,hb.size,fun b hl _=>hb.block b hl,fun b h => .inl h,fun b h => .inl h⟩⟩
end
end Go.Proofs.YtpofhijgccocpaaGreatDoor
end
section
namespace Go.Proofs.YtpofhijgccocpaaGreatDoor
open Go.AS Go.TP
noncomputable section
theorem zavE (x:ByteArray):x.data.toList.all zadV=zaa0 zadV x 0:=by unfold zaa0; rw [show (0:Int).toNat=0 from rfl,List.drop_zero]
end
end Go.Proofs.YtpofhijgccocpaaGreatDoor
end
section
namespace Go.Proofs.YtpofhijgccocpaaGreatDoor
open Go.AS Go.TP
noncomputable section
def mArg:AV := .ptr 1048577 [0,0] 0 0
def zajS (xs:List Int)(at_:Int):Hp:=hpL [(1048577,⟨[0,0], .row true 2 [.agg [.lst false 1 (xs.map i0),i0 at_]]⟩)]
def mOut (xs:List Int)(at_:Int)(x:AV):Back:=⟨x,zajS xs at_,[1048577]⟩
def zakm:Sp := .pure (Int × Int) (fun i=>0<i.2/\i.2<=1000000) (fun i=>[i0 i.1,i0 i.2]) (fun i=>i0 (i.1 % i.2))
def zazO (os:Orc)(n m:Int):Prop:=gF XB [zaqT] zaqT os [i0 n,i0 m] (i0 (n % m))
noncomputable def XK:WX:=XB.add zaqT (Sp.con [zakm])
def hb0 (p:Int):Int:=[171,171,160,18,254,171].getD (p % 6).toNat 0
def zawN (p:Int):List Value:=([hb0 p,p / 6*16 % 256,p*7 % 256]++List.replicate 28 0++[p]).map (Value.int .u8)
def zarq:Sp := .pure Int (fun n=>0<=n/\n<60) (fun n=>[i0 n]) (fun n => .agg ((zawN n).map .lit))
def zazS (os:Orc)(n:Int):Prop:=gF XK [zaw] zaw os [i0 n] (.agg ((zawN n).map .lit))
noncomputable def XH:WX:=XK.add zaw (Sp.con [zarq])
def zaup (os:Orc)(at_ n:Int):Prop:=runF (XK.ask [zaaP]) 10 zaaP (fn zaaP) (code zaaP) os 0 [] [mArg,i0 n] (zajS [] at_) (mOut [] at_ (i0 0))
def zazP (os:Orc)(xs:List Int)(at_ n v:Int):Prop:=runF ((XK.ask [zaaP]).askAt zaaP [32,33]) 10 zaaP (fn zaaP) (code zaaP) os 0 [] [mArg,i0 n] (zajS xs at_) (mOut xs (at_+1) (i0 v))
end
end Go.Proofs.YtpofhijgccocpaaGreatDoor
end
section
namespace Go.Proofs.YtpofhijgccocpaaGreatDoor
open Go Go.AS Go.TP
theorem zap3 (n m:Int):zazO (Orc.s Orc.z Orc.z) n m=((!m==0)=true/\(decide (Int.tmod n m<0)=true->inR IntKind.i64 (Int.tmod n m+m)=true/\Wk (i0 (Int.tmod n m+m)) (i0 (n % m))/\SameH (hpL []) (hpL []))/\(decide (Int.tmod n m<0)=false->Wk (i0 (Int.tmod n m)) (i0 (n % m))/\SameH (hpL []) (hpL []))):=by kernel_rfl
theorem zaqa (n:Int):zazS (Orc.z) n=(∃ (i1:Int × Int),(((0:Int)<Prod.snd i1/\Prod.snd i1<=1000000)/\Wks [AV.lit (Value.int IntKind.i64 n),AV.lit (Value.int IntKind.i64 60)] [AV.lit (Value.int IntKind.i64 (Prod.fst i1)),AV.lit (Value.int IntKind.i64 (Prod.snd i1))]/\hpL []=hpL [])/\true=true/\(decide ((0:Int)<=Int.tmod (Prod.fst i1 % Prod.snd i1) (6:Int)/\Int.tmod (Prod.fst i1 % Prod.snd i1) (6:Int)<(6:Int))&&true)=true/\(inR IntKind.i64 (Int.tdiv (Prod.fst i1 % Prod.snd i1) (6:Int))&&true)=true/\inR IntKind.i64 (Int.tdiv (Prod.fst i1 % Prod.snd i1) (6:Int)*(16:Int))=true/\true=true/\inR IntKind.i64 (Prod.fst i1 % Prod.snd i1*7)=true/\true=true/\true=true/\Wk (AV.agg [AV.lit (Value.int IntKind.u8 (List.getD (zav7 [Value.int IntKind.u8 (171:Int),Value.int IntKind.u8 (171:Int),Value.int IntKind.u8 (160:Int),Value.int IntKind.u8 (18:Int),Value.int IntKind.u8 (254:Int),Value.int IntKind.u8 (171:Int)]) (Int.toNat (Int.tmod (Prod.fst i1 % Prod.snd i1) (6:Int))) (0:Int))),AV.lit (Value.int IntKind.u8 (IntKind.wrap IntKind.u8 (Int.tdiv (Prod.fst i1 % Prod.snd i1) (6:Int)*(16:Int)))),AV.lit (Value.int IntKind.u8 (IntKind.wrap IntKind.u8 (Prod.fst i1 % Prod.snd i1*7))),AV.lit (Value.int IntKind.u8 (0:Int)),AV.lit (Value.int IntKind.u8 (0:Int)),AV.lit (Value.int IntKind.u8 (0:Int)),AV.lit (Value.int IntKind.u8 (0:Int)),AV.lit (Value.int IntKind.u8 (0:Int)),AV.lit (Value.int IntKind.u8 (0:Int)),AV.lit (Value.int IntKind.u8 (0:Int)),AV.lit (Value.int IntKind.u8 (0:Int)),AV.lit (Value.int IntKind.u8 (0:Int)),AV.lit (Value.int IntKind.u8 (0:Int)),AV.lit (Value.int IntKind.u8 (0:Int)),AV.lit (Value.int IntKind.u8 (0:Int)),AV.lit (Value.int IntKind.u8 (0:Int)),AV.lit (Value.int IntKind.u8 (0:Int)),AV.lit (Value.int IntKind.u8 (0:Int)),AV.lit (Value.int IntKind.u8 (0:Int)),AV.lit (Value.int IntKind.u8 (0:Int)),AV.lit (Value.int IntKind.u8 (0:Int)),AV.lit (Value.int IntKind.u8 (0:Int)),AV.lit (Value.int IntKind.u8 (0:Int)),AV.lit (Value.int IntKind.u8 (0:Int)),AV.lit (Value.int IntKind.u8 (0:Int)),AV.lit (Value.int IntKind.u8 (0:Int)),AV.lit (Value.int IntKind.u8 (0:Int)),AV.lit (Value.int IntKind.u8 (0:Int)),AV.lit (Value.int IntKind.u8 (0:Int)),AV.lit (Value.int IntKind.u8 (0:Int)),AV.lit (Value.int IntKind.u8 (0:Int)),AV.lit (Value.int IntKind.u8 (IntKind.wrap IntKind.u8 (Prod.fst i1 % Prod.snd i1)))]) (AV.agg [AV.lit (Value.int IntKind.u8 (hb0 n)),AV.lit (Value.int IntKind.u8 (n / (6:Int)*(16:Int) % (256:Int))),AV.lit (Value.int IntKind.u8 (n*7 % (256:Int))),AV.lit (Value.int IntKind.u8 (0:Int)),AV.lit (Value.int IntKind.u8 (0:Int)),AV.lit (Value.int IntKind.u8 (0:Int)),AV.lit (Value.int IntKind.u8 (0:Int)),AV.lit (Value.int IntKind.u8 (0:Int)),AV.lit (Value.int IntKind.u8 (0:Int)),AV.lit (Value.int IntKind.u8 (0:Int)),AV.lit (Value.int IntKind.u8 (0:Int)),AV.lit (Value.int IntKind.u8 (0:Int)),AV.lit (Value.int IntKind.u8 (0:Int)),AV.lit (Value.int IntKind.u8 (0:Int)),AV.lit (Value.int IntKind.u8 (0:Int)),AV.lit (Value.int IntKind.u8 (0:Int)),AV.lit (Value.int IntKind.u8 (0:Int)),AV.lit (Value.int IntKind.u8 (0:Int)),AV.lit (Value.int IntKind.u8 (0:Int)),AV.lit (Value.int IntKind.u8 (0:Int)),AV.lit (Value.int IntKind.u8 (0:Int)),AV.lit (Value.int IntKind.u8 (0:Int)),AV.lit (Value.int IntKind.u8 (0:Int)),AV.lit (Value.int IntKind.u8 (0:Int)),AV.lit (Value.int IntKind.u8 (0:Int)),AV.lit (Value.int IntKind.u8 (0:Int)),AV.lit (Value.int IntKind.u8 (0:Int)),AV.lit (Value.int IntKind.u8 (0:Int)),AV.lit (Value.int IntKind.u8 (0:Int)),AV.lit (Value.int IntKind.u8 (0:Int)),AV.lit (Value.int IntKind.u8 (0:Int)),AV.lit (Value.int IntKind.u8 n)])/\SameH (hpL []) (hpL [])):=by kernel_rfl
theorem zamX (at_ n:Int):zaup (Orc.t Orc.z) at_ n=(let z1:=(hpL [eR 1048577 [0,0] 2 [AV.agg [AV.lst false 1 [],i0 at_]]]); Yt (Wk (i0 0) (i0 0)/\SameH z1 z1)):=by kernel_rfl
theorem zap5 (xs:List Int)(at_ n v:Int):zazP (Orc.f Orc.z) xs at_ n v=(let z1:=(↑(List.length (List.map i0 xs)):Int); let z2:=(List.getD (List.map i0 xs) (Int.toNat (Int.tmod (at_+1) z1)) uu); let z3:=(hpL [eR 1048577 [0,0] 2 [AV.agg [AV.lst false 1 (List.map i0 xs),i0 (at_+1)]]]); let z4:=((1:Int)+Int.tdiv (at_+1) z1); (z1==0)=false/\inR IntKind.i64 (at_+1)=true/\(!(↑(List.length (List.map i0 xs)):Int)==0)=true/\(decide ((0:Int)<=Int.tmod (at_+1) z1/\Int.tmod (at_+1) z1<z1)&&(true&&(zaak (Cx.B (cxV (WX.askAt (WX.ask XK [zaaP]) zaaP [32,33]) 10 zaaP)) shN 3 z2&&(false||true))))=true/\(inR IntKind.i64 (Int.tdiv (at_+1) z1)&&!(↑(List.length (List.map i0 xs)):Int)==0)=true/\inR IntKind.i64 z4=true/\(inR IntKind.i64 (Int.tdiv (intA z2) z4)&&!(1:Int)+Int.tdiv (at_+1) z1==0)=true/\∃ (i1:Int × Int),(((0:Int)<Prod.snd i1/\Prod.snd i1<=1000000)/\Wks [i0 (Int.tdiv (intA z2) z4),i0 n] [i0 (Prod.fst i1),i0 (Prod.snd i1)]/\hpL []=hpL [])/\Wk (i0 (Prod.fst i1 % Prod.snd i1)) (i0 v)/\SameH z3 z3):=by kernel_rfl
end Go.Proofs.YtpofhijgccocpaaGreatDoor
end
section
namespace Go.Proofs.YtpofhijgccocpaaGreatDoor
open Go.AS Go.TP
noncomputable section
theorem zabO {f:Nat}{s:Sp}(h:∀ i,s.pre i->FOk Tryz.prog gl0 f (s.args i) (s.heap i) (s.out i)):zagn Tryz.prog gl0 f (Sp.con [s]):=Sp.one h
theorem zap4 (n m:Int)(h1:0<m)(h2:m<=1000000):zazO (Orc.s Orc.z Orc.z) n m:=by
 rw [zap3]
 obtain ⟨e1,e2⟩:=zamc (n:=n) (m:=m) h1
 have h3:=Int.emod_nonneg n (by omega:m≠0)
 have h4:=Int.emod_lt_of_pos n h1
 refine ⟨by simp; omega,fun h => ?_,fun h => ?_⟩
 · have h:=of_decide_eq_true h
   exact ⟨zaao (by rw [e1 h]; omega) (by rw [e1 h]; omega), .of_eq (by rw [e1 h]), .rfl⟩
 · have h:=of_decide_eq_false h
   exact ⟨.of_eq (by rw [e2 h]), .rfl⟩
set_option maxRecDepth 100000 in
theorem zanL (n m:Int)(h1:0<m)(h2:m<=1000000):F zaqT [i0 n,i0 m] (i0 (n % m)):=F_ok zabg rfl (by kernel_rfl) (by kernel_rfl) (by kernel_rfl) (zap4 n m h1 h2)
theorem zawd:XK.Sound:=zabg.add (zabO (s:=zakm) fun i h=>zanL i.1 i.2 h.1 h.2)
theorem zaqb (n:Int)(h0:0<=n)(h1:n<60):zazS Orc.z n:=by
 rw [zaqa]
 have hp:n % 60=n:=Int.emod_eq_of_lt h0 h1
 have t6:n.tmod 6=n % 6:=Int.tmod_eq_emod_of_nonneg h0
 have d6:n.tdiv 6=n / 6:=Int.tdiv_eq_ediv_of_nonneg h0
 refine ⟨(n,60),⟨⟨by show (0:Int)<60; omega,by show (60:Int)<=1000000; omega⟩, .refl _,rfl⟩,rfl,?_⟩
 simp only [hp,t6,d6]
 have e:n % 256=n:=Int.emod_eq_of_lt h0 (by omega)
 refine ⟨?_,?_,zaao (by omega) (by omega),trivial,zaao (by omega) (by omega),trivial,trivial,?_, .rfl⟩
 · rw [decide_eq_true ⟨by omega,by omega⟩]; rfl
 · rw [zaao (by omega) (by omega)]; rfl
 · simp only [zaif,e]
   exact .refl _
set_option maxRecDepth 100000 in
theorem zasU (n:Int)(h0:0<=n)(h1:n<60):F zaw [i0 n] (.agg ((zawN n).map .lit)):=F_ok zawd rfl (by kernel_rfl) (by kernel_rfl) (by kernel_rfl) (zaqb n h0 h1)
theorem zaoh:XH.Sound:=zawd.add (zabO (s:=zarq) fun n h=>zasU n h.1 h.2)
end
end Go.Proofs.YtpofhijgccocpaaGreatDoor
end
section
namespace Go.Proofs.YtpofhijgccocpaaGreatDoor
open Go.AS Go.TP
noncomputable section
def digs:ByteArray:=⟨#[48,49,50,51,52,53,54,55,56,57,97,98,99,100,101,102]⟩
def zabu (xs:List Int)(at_ n at' v:Int):Sp:=⟨Unit,fun _=>True,fun _=>[mArg,i0 n],fun _=>zajS xs at_,fun _=>mOut xs at' (i0 v)⟩
def zav3 (s:ByteArray)(i:Int):List AV:=[.ptr 1048578 [1,0] 0 0, .ptr 1048577 [0,0] 0 0,s0 s,s0 digs,i0 i]
def hRow (h:Nat->Int):List AV:=(List.range 32).map fun k => .lit (.int .u8 (h k))
def zasC (xs:List Int)(at_:Int)(h:Nat->Int):Hp:=hpL [(1048577,⟨[0,0], .row true 1 (hRow h)⟩),(1048578,⟨[1,0], .row true 2 [.agg [.lst false 1 (xs.map i0),i0 at_]]⟩)]
def nOut (xs:List Int)(at_:Int)(h:Nat->Int)(s:ByteArray):Ex × Back:=(.exit 0,⟨.tup [.ptr 1048578 [1,0] 0 0,s0 s],zasC xs at_ h,[]⟩)
abbrev lpNm (Q:ByteArray->Prop)(xs:List Int)(at_:Int)(h:Nat->Int)(i:Int)(r:Ex × Back):Lp :=
 ⟨[0,3,4,5,6],[],fun _=>[0,4],Spl.con [⟨ByteArray,fun s=>Q s,fun s=>zav3 s i,fun _=>zasC xs at_ h,fun _=>r⟩]⟩
def rNm (os:Orc)(Q:ByteArray->Prop)(xs:List Int)(at_:Int)(h:Nat->Int)(s:ByteArray)(i j:Int)(t:ByteArray):Prop :=
 runL (XB.ask [zaa7]) 10 zaa7 (fn zaa7).ntmps (zabw (code zaa7) 0) (lpNm Q xs at_ h j (nOut xs at_ h t)) (lpNm Q xs at_ h j (nOut xs at_ h t)) os 0 [] (zav3 s i) (zasC xs at_ h) (nOut xs at_ h t)
def rNm0 (os:Orc)(Q:ByteArray->Prop)(xs:List Int)(at_:Int)(h:Nat->Int)(s t:ByteArray):Prop:=rNm os Q xs at_ h s 0 1 t
def rNm1 (os:Orc)(Q:ByteArray->Prop)(xs:List Int)(at_:Int)(h:Nat->Int)(s t:ByteArray):Prop:=rNm os Q xs at_ h s 1 2 t
def rNm2 (os:Orc)(Q:ByteArray->Prop)(xs:List Int)(at_:Int)(h:Nat->Int)(s t:ByteArray):Prop:=rNm os Q xs at_ h s 2 3 t
def rNm3 (os:Orc)(Q:ByteArray->Prop)(xs:List Int)(at_:Int)(h:Nat->Int)(s t:ByteArray):Prop:=rNm os Q xs at_ h s 3 4 t
def rNm4 (os:Orc)(Q:ByteArray->Prop)(xs:List Int)(at_:Int)(h:Nat->Int)(s t:ByteArray):Prop:=rNm os Q xs at_ h s 4 5 t
def rNm5 (os:Orc)(Q:ByteArray->Prop)(xs:List Int)(at_:Int)(h:Nat->Int)(s t:ByteArray):Prop:=rNm os Q xs at_ h s 5 6 t
def rNm6 (os:Orc)(Q:ByteArray->Prop)(xs:List Int)(at_:Int)(h:Nat->Int)(s t:ByteArray):Prop:=rNm os Q xs at_ h s 6 7 t
def rNm7 (os:Orc)(Q:ByteArray->Prop)(xs:List Int)(at_:Int)(h:Nat->Int)(s t:ByteArray):Prop:=rNm os Q xs at_ h s 7 8 t
def rNm8 (os:Orc)(Q:ByteArray->Prop)(xs:List Int)(at_:Int)(h:Nat->Int)(s t:ByteArray):Prop:=rNm os Q xs at_ h s 8 9 t
def rNm9 (os:Orc)(Q:ByteArray->Prop)(xs:List Int)(at_:Int)(h:Nat->Int)(s t:ByteArray):Prop:=rNm os Q xs at_ h s 9 10 t
def zayj (os:Orc)(Q:ByteArray->Prop)(xs:List Int)(at_:Int)(h:Nat->Int)(s t:ByteArray):Prop:=rNm os Q xs at_ h s 10 11 t
def zayi (os:Orc)(Q:ByteArray->Prop)(xs:List Int)(at_:Int)(h:Nat->Int)(s t:ByteArray):Prop:=rNm os Q xs at_ h s 11 12 t
def zayh (os:Orc)(Q:ByteArray->Prop)(xs:List Int)(at_:Int)(h:Nat->Int)(s t:ByteArray):Prop:=rNm os Q xs at_ h s 12 13 t
def zayg (os:Orc)(Q:ByteArray->Prop)(xs:List Int)(at_:Int)(h:Nat->Int)(s t:ByteArray):Prop:=rNm os Q xs at_ h s 13 14 t
def zayf (os:Orc)(Q:ByteArray->Prop)(xs:List Int)(at_:Int)(h:Nat->Int)(s t:ByteArray):Prop:=rNm os Q xs at_ h s 14 15 t
def zaye (os:Orc)(Q:ByteArray->Prop)(xs:List Int)(at_:Int)(h:Nat->Int)(s t:ByteArray):Prop:=rNm os Q xs at_ h s 15 16 t
def zayd (os:Orc)(Q:ByteArray->Prop)(xs:List Int)(at_:Int)(h:Nat->Int)(s t:ByteArray):Prop:=rNm os Q xs at_ h s 16 17 t
def zayc (os:Orc)(Q:ByteArray->Prop)(xs:List Int)(at_:Int)(h:Nat->Int)(s t:ByteArray):Prop:=rNm os Q xs at_ h s 17 18 t
def zayb (os:Orc)(Q:ByteArray->Prop)(xs:List Int)(at_:Int)(h:Nat->Int)(s t:ByteArray):Prop:=rNm os Q xs at_ h s 18 19 t
def zaya (os:Orc)(Q:ByteArray->Prop)(xs:List Int)(at_:Int)(h:Nat->Int)(s t:ByteArray):Prop:=rNm os Q xs at_ h s 19 20 t
def zay (os:Orc)(Q:ByteArray->Prop)(xs:List Int)(at_:Int)(h:Nat->Int)(s t:ByteArray):Prop:=rNm os Q xs at_ h s 20 21 t
def zax9 (os:Orc)(Q:ByteArray->Prop)(xs:List Int)(at_:Int)(h:Nat->Int)(s t:ByteArray):Prop:=rNm os Q xs at_ h s 21 22 t
def zax8 (os:Orc)(Q:ByteArray->Prop)(xs:List Int)(at_:Int)(h:Nat->Int)(s t:ByteArray):Prop:=rNm os Q xs at_ h s 22 23 t
def zax7 (os:Orc)(Q:ByteArray->Prop)(xs:List Int)(at_:Int)(h:Nat->Int)(s t:ByteArray):Prop:=rNm os Q xs at_ h s 23 24 t
def zax6 (os:Orc)(Q:ByteArray->Prop)(xs:List Int)(at_:Int)(h:Nat->Int)(s t:ByteArray):Prop:=rNm os Q xs at_ h s 24 25 t
def zax5 (os:Orc)(Q:ByteArray->Prop)(xs:List Int)(at_:Int)(h:Nat->Int)(s t:ByteArray):Prop:=rNm os Q xs at_ h s 25 26 t
def zax4 (os:Orc)(Q:ByteArray->Prop)(xs:List Int)(at_:Int)(h:Nat->Int)(s t:ByteArray):Prop:=rNm os Q xs at_ h s 26 27 t
def zax3 (os:Orc)(Q:ByteArray->Prop)(xs:List Int)(at_:Int)(h:Nat->Int)(s t:ByteArray):Prop:=rNm os Q xs at_ h s 27 28 t
def zax2 (os:Orc)(Q:ByteArray->Prop)(xs:List Int)(at_:Int)(h:Nat->Int)(s t:ByteArray):Prop:=rNm os Q xs at_ h s 28 29 t
def zax1 (os:Orc)(Q:ByteArray->Prop)(xs:List Int)(at_:Int)(h:Nat->Int)(s t:ByteArray):Prop:=rNm os Q xs at_ h s 29 30 t
def zax0 (os:Orc)(Q:ByteArray->Prop)(xs:List Int)(at_:Int)(h:Nat->Int)(s t:ByteArray):Prop:=rNm os Q xs at_ h s 30 31 t
def zaxZ (os:Orc)(Q:ByteArray->Prop)(xs:List Int)(at_:Int)(h:Nat->Int)(s t:ByteArray):Prop:=rNm os Q xs at_ h s 31 32 t
def zaxY (os:Orc)(Q:ByteArray->Prop)(xs:List Int)(at_:Int)(h:Nat->Int)(s _:ByteArray):Prop:=rNm os Q xs at_ h s 32 33 s
def hB (p:Int)(k:Nat):Int:=[hb0 p,p / 6*16 % 256,p*7 % 256].getD k (if k=31 then p else 0)
def zazQ (os:Orc)(xs:List Int)(at_ p at1 w at2:Int)(t s:ByteArray):Prop :=
 runF ((((XH.add zaaP (Sp.con [zabu xs at_ 60 at1 p,zabu xs at1 12 at2 w])).addLp zaa7 0 (lpNm (fun s=>s=ByteArray.empty) xs at1 (hB p) 0 (nOut xs at1 (hB p) t))).ask [zaa7])) 10 zaa7 (fn zaa7) (code zaa7) os 0 [] [mArg] (zajS xs at_) (mOut xs at2 (s0 s))
end
end Go.Proofs.YtpofhijgccocpaaGreatDoor
end
section
namespace Go.Proofs.YtpofhijgccocpaaGreatDoor
open Go Go.AS Go.TP
noncomputable abbrev zawx (h:Nat->Int) (xs:List Int) (at_:Int):=[eR 1048577 [0,0] 1 (hR h),eR 1048578 [1,0] 2 [AV.agg [AV.lst false 1 (List.map i0 xs),i0 at_]]]
noncomputable abbrev zaym (t:ByteArray):=(AV.tup [AV.ptr 1048578 [1,0] 0 0,s0 t])
abbrev rNmT (Q:ByteArray->Prop)(xs:List Int)(at_:Int)(h:Nat->Int)(s t:ByteArray)(i:Nat)(j:Int):Prop:=(let z1:=(some (IntKind.wrap IntKind.u8 (IntKind.wrap IntKind.u8 (Int.tdiv (h i) (16:Int))+1))); let z2:=(some (IntKind.wrap IntKind.u8 (Int.tdiv (h i) (16:Int)))); let z3:=(some (IntKind.wrap IntKind.u8 (Int.tmod (h i) (16:Int)+(1:Int)))); let z4:=(some (Int.tmod (h i) (16:Int))); let z5:=(Int.toNat (Option.getD z1 (16:Int))); let z6:=(Int.toNat (Option.getD z2 (0:Int))); let z7:=(zawx h xs at_); let z8:=(Int.toNat (Option.getD z3 (16:Int))); let z9:=(Int.toNat (Option.getD z4 (0:Int))); Yt ((true&&true)=true/\(true&&true)=true/\Yt (decide ((0:Int)<=Option.getD z2 (0:Int)/\Option.getD z2 (0:Int)<=Option.getD z1 (16:Int)/\Option.getD z1 (16:Int)<=(16:Int)/\false=false)=true/\decide (ByteArray.size s+ByteArray.size (ByteArray.extract digs z6 z5)<=9223372036854775807)=true/\Yt (Yt (Yt (decide ((0:Int)<=Option.getD z4 (0:Int)/\Option.getD z4 (0:Int)<=Option.getD z3 (16:Int)/\Option.getD z3 (16:Int)<=(16:Int)/\false=false)=true/\decide (ByteArray.size (s++ByteArray.extract digs z6 z5)+ByteArray.size (ByteArray.extract digs z9 z8)<=9223372036854775807)=true/\Yt (∃ (i1:ByteArray),(Q i1/\Wks [AV.ptr 1048578 [1,0] 0 0,AV.ptr 1048577 [0,0] 0 0,s0 (s++ByteArray.extract digs z6 z5++ByteArray.extract digs z9 z8),s0 digs,i0 j] [AV.ptr 1048578 [1,0] 0 0,AV.ptr 1048577 [0,0] 0 0,s0 i1,s0 digs,i0 j]/\hpL z7=hpL z7)/\Ex.exit 0=Ex.exit 0/\Wk (zaym t) (zaym t)/\SameH (hpL z7) (hpL z7))))))))
theorem zarN (Q:ByteArray->Prop)(xs:List Int)(at_:Int)(h:Nat->Int)(s t:ByteArray):rNm0 (Orc.t Orc.z) Q xs at_ h s t=rNmT Q xs at_ h s t 0 1:=by kernel_rfl
theorem zarM (Q:ByteArray->Prop)(xs:List Int)(at_:Int)(h:Nat->Int)(s t:ByteArray):rNm1 (Orc.t Orc.z) Q xs at_ h s t=rNmT Q xs at_ h s t 1 2:=by kernel_rfl
theorem zarL (Q:ByteArray->Prop)(xs:List Int)(at_:Int)(h:Nat->Int)(s t:ByteArray):rNm2 (Orc.t Orc.z) Q xs at_ h s t=rNmT Q xs at_ h s t 2 3:=by kernel_rfl
theorem zarK (Q:ByteArray->Prop)(xs:List Int)(at_:Int)(h:Nat->Int)(s t:ByteArray):rNm3 (Orc.t Orc.z) Q xs at_ h s t=rNmT Q xs at_ h s t 3 4:=by kernel_rfl
theorem zarJ (Q:ByteArray->Prop)(xs:List Int)(at_:Int)(h:Nat->Int)(s t:ByteArray):rNm4 (Orc.t Orc.z) Q xs at_ h s t=rNmT Q xs at_ h s t 4 5:=by kernel_rfl
theorem zarI (Q:ByteArray->Prop)(xs:List Int)(at_:Int)(h:Nat->Int)(s t:ByteArray):rNm5 (Orc.t Orc.z) Q xs at_ h s t=rNmT Q xs at_ h s t 5 6:=by kernel_rfl
theorem zarH (Q:ByteArray->Prop)(xs:List Int)(at_:Int)(h:Nat->Int)(s t:ByteArray):rNm6 (Orc.t Orc.z) Q xs at_ h s t=rNmT Q xs at_ h s t 6 7:=by kernel_rfl
theorem zarG (Q:ByteArray->Prop)(xs:List Int)(at_:Int)(h:Nat->Int)(s t:ByteArray):rNm7 (Orc.t Orc.z) Q xs at_ h s t=rNmT Q xs at_ h s t 7 8:=by kernel_rfl
theorem zarF (Q:ByteArray->Prop)(xs:List Int)(at_:Int)(h:Nat->Int)(s t:ByteArray):rNm8 (Orc.t Orc.z) Q xs at_ h s t=rNmT Q xs at_ h s t 8 9:=by kernel_rfl
theorem zarE (Q:ByteArray->Prop)(xs:List Int)(at_:Int)(h:Nat->Int)(s t:ByteArray):rNm9 (Orc.t Orc.z) Q xs at_ h s t=rNmT Q xs at_ h s t 9 10:=by kernel_rfl
theorem zapb (Q:ByteArray->Prop)(xs:List Int)(at_:Int)(h:Nat->Int)(s t:ByteArray):zayj (Orc.t Orc.z) Q xs at_ h s t=rNmT Q xs at_ h s t 10 11:=by kernel_rfl
theorem zapa (Q:ByteArray->Prop)(xs:List Int)(at_:Int)(h:Nat->Int)(s t:ByteArray):zayi (Orc.t Orc.z) Q xs at_ h s t=rNmT Q xs at_ h s t 11 12:=by kernel_rfl
theorem zap (Q:ByteArray->Prop)(xs:List Int)(at_:Int)(h:Nat->Int)(s t:ByteArray):zayh (Orc.t Orc.z) Q xs at_ h s t=rNmT Q xs at_ h s t 12 13:=by kernel_rfl
theorem zao9 (Q:ByteArray->Prop)(xs:List Int)(at_:Int)(h:Nat->Int)(s t:ByteArray):zayg (Orc.t Orc.z) Q xs at_ h s t=rNmT Q xs at_ h s t 13 14:=by kernel_rfl
theorem zao8 (Q:ByteArray->Prop)(xs:List Int)(at_:Int)(h:Nat->Int)(s t:ByteArray):zayf (Orc.t Orc.z) Q xs at_ h s t=rNmT Q xs at_ h s t 14 15:=by kernel_rfl
theorem zao7 (Q:ByteArray->Prop)(xs:List Int)(at_:Int)(h:Nat->Int)(s t:ByteArray):zaye (Orc.t Orc.z) Q xs at_ h s t=rNmT Q xs at_ h s t 15 16:=by kernel_rfl
theorem zao6 (Q:ByteArray->Prop)(xs:List Int)(at_:Int)(h:Nat->Int)(s t:ByteArray):zayd (Orc.t Orc.z) Q xs at_ h s t=rNmT Q xs at_ h s t 16 17:=by kernel_rfl
theorem zao5 (Q:ByteArray->Prop)(xs:List Int)(at_:Int)(h:Nat->Int)(s t:ByteArray):zayc (Orc.t Orc.z) Q xs at_ h s t=rNmT Q xs at_ h s t 17 18:=by kernel_rfl
theorem zao4 (Q:ByteArray->Prop)(xs:List Int)(at_:Int)(h:Nat->Int)(s t:ByteArray):zayb (Orc.t Orc.z) Q xs at_ h s t=rNmT Q xs at_ h s t 18 19:=by kernel_rfl
theorem zao3 (Q:ByteArray->Prop)(xs:List Int)(at_:Int)(h:Nat->Int)(s t:ByteArray):zaya (Orc.t Orc.z) Q xs at_ h s t=rNmT Q xs at_ h s t 19 20:=by kernel_rfl
theorem zao2 (Q:ByteArray->Prop)(xs:List Int)(at_:Int)(h:Nat->Int)(s t:ByteArray):zay (Orc.t Orc.z) Q xs at_ h s t=rNmT Q xs at_ h s t 20 21:=by kernel_rfl
theorem zao1 (Q:ByteArray->Prop)(xs:List Int)(at_:Int)(h:Nat->Int)(s t:ByteArray):zax9 (Orc.t Orc.z) Q xs at_ h s t=rNmT Q xs at_ h s t 21 22:=by kernel_rfl
theorem zao0 (Q:ByteArray->Prop)(xs:List Int)(at_:Int)(h:Nat->Int)(s t:ByteArray):zax8 (Orc.t Orc.z) Q xs at_ h s t=rNmT Q xs at_ h s t 22 23:=by kernel_rfl
theorem zaoZ (Q:ByteArray->Prop)(xs:List Int)(at_:Int)(h:Nat->Int)(s t:ByteArray):zax7 (Orc.t Orc.z) Q xs at_ h s t=rNmT Q xs at_ h s t 23 24:=by kernel_rfl
theorem zaoY (Q:ByteArray->Prop)(xs:List Int)(at_:Int)(h:Nat->Int)(s t:ByteArray):zax6 (Orc.t Orc.z) Q xs at_ h s t=rNmT Q xs at_ h s t 24 25:=by kernel_rfl
theorem zaoX (Q:ByteArray->Prop)(xs:List Int)(at_:Int)(h:Nat->Int)(s t:ByteArray):zax5 (Orc.t Orc.z) Q xs at_ h s t=rNmT Q xs at_ h s t 25 26:=by kernel_rfl
theorem zaoW (Q:ByteArray->Prop)(xs:List Int)(at_:Int)(h:Nat->Int)(s t:ByteArray):zax4 (Orc.t Orc.z) Q xs at_ h s t=rNmT Q xs at_ h s t 26 27:=by kernel_rfl
theorem zaoV (Q:ByteArray->Prop)(xs:List Int)(at_:Int)(h:Nat->Int)(s t:ByteArray):zax3 (Orc.t Orc.z) Q xs at_ h s t=rNmT Q xs at_ h s t 27 28:=by kernel_rfl
theorem zaoU (Q:ByteArray->Prop)(xs:List Int)(at_:Int)(h:Nat->Int)(s t:ByteArray):zax2 (Orc.t Orc.z) Q xs at_ h s t=rNmT Q xs at_ h s t 28 29:=by kernel_rfl
theorem zaoT (Q:ByteArray->Prop)(xs:List Int)(at_:Int)(h:Nat->Int)(s t:ByteArray):zax1 (Orc.t Orc.z) Q xs at_ h s t=rNmT Q xs at_ h s t 29 30:=by kernel_rfl
theorem zaoS (Q:ByteArray->Prop)(xs:List Int)(at_:Int)(h:Nat->Int)(s t:ByteArray):zax0 (Orc.t Orc.z) Q xs at_ h s t=rNmT Q xs at_ h s t 30 31:=by kernel_rfl
theorem zaoR (Q:ByteArray->Prop)(xs:List Int)(at_:Int)(h:Nat->Int)(s t:ByteArray):zaxZ (Orc.t Orc.z) Q xs at_ h s t=rNmT Q xs at_ h s t 31 32:=by kernel_rfl
theorem zaoQ (Q:ByteArray->Prop)(xs:List Int)(at_:Int)(h:Nat->Int)(s t:ByteArray):zaxY (Orc.f Orc.z) Q xs at_ h s t=(let z1:=(AV.tup [AV.ptr 1048578 [1,0] 0 0,s0 s]); Nf (Ex.exit 0=Ex.exit 0/\Wk z1 z1/\SameH (hpL (zawx h xs at_)) (hpL (zawx h xs at_)))):=by kernel_rfl
theorem zap7 (xs:List Int)(at_ p:Int)(at1 w at2:Int)(t s:ByteArray):zazQ (Orc.alt 0 (Orc.alt 1 (Orc.s Orc.z (Orc.s Orc.z (Orc.s Orc.z (Orc.s (Orc.t Orc.z) (Orc.s (Orc.t Orc.z) (Orc.s Orc.z Orc.z)))))))) xs at_ p at1 w at2 t s=(∃ (_:Unit),(True/\Wks [AV.ptr 1048577 [0,0] 0 0,AV.lit (Value.int IntKind.i64 60)] [AV.ptr 1048577 [0,0] 0 0,AV.lit (Value.int IntKind.i64 60)]/\hpL [(1048577,{ id:=[0,0],obj:=AObj.row true 2 [AV.agg [AV.lst false 1 (List.map i0 xs),AV.lit (Value.int IntKind.i64 at_)]] })]=hpL [(1048577,{ id:=[0,0],obj:=AObj.row true 2 [AV.agg [AV.lst false 1 (List.map i0 xs),AV.lit (Value.int IntKind.i64 at_)]] })])/\∃ (i2:Int),(((0:Int)<=i2/\i2<60)/\Wks [AV.lit (Value.int IntKind.i64 p)] [AV.lit (Value.int IntKind.i64 i2)]/\hpL []=hpL [])/\∃ (i3:ByteArray),(i3=ByteArray.empty/\Wks [AV.ptr 1048578 [1,0] 0 0,AV.ptr 1048577 [0,0] 0 0,AV.lit (Value.string ⟨⟨[]⟩⟩),AV.lit (Value.string digs),AV.lit (Value.int IntKind.i64 0)] [AV.ptr 1048578 [1,0] 0 0,AV.ptr 1048577 [0,0] 0 0,AV.lit (Value.string i3),AV.lit (Value.string digs),AV.lit (Value.int IntKind.i64 0)]/\hpL [(1048577,{ id:=[0,0],obj:=AObj.row true 1 [AV.lit (Value.int IntKind.u8 (hb0 i2)),AV.lit (Value.int IntKind.u8 (i2 / (6:Int)*(16:Int) % (256:Int))),AV.lit (Value.int IntKind.u8 (i2*7 % (256:Int))),AV.lit (Value.int IntKind.u8 (0:Int)),AV.lit (Value.int IntKind.u8 (0:Int)),AV.lit (Value.int IntKind.u8 (0:Int)),AV.lit (Value.int IntKind.u8 (0:Int)),AV.lit (Value.int IntKind.u8 (0:Int)),AV.lit (Value.int IntKind.u8 (0:Int)),AV.lit (Value.int IntKind.u8 (0:Int)),AV.lit (Value.int IntKind.u8 (0:Int)),AV.lit (Value.int IntKind.u8 (0:Int)),AV.lit (Value.int IntKind.u8 (0:Int)),AV.lit (Value.int IntKind.u8 (0:Int)),AV.lit (Value.int IntKind.u8 (0:Int)),AV.lit (Value.int IntKind.u8 (0:Int)),AV.lit (Value.int IntKind.u8 (0:Int)),AV.lit (Value.int IntKind.u8 (0:Int)),AV.lit (Value.int IntKind.u8 (0:Int)),AV.lit (Value.int IntKind.u8 (0:Int)),AV.lit (Value.int IntKind.u8 (0:Int)),AV.lit (Value.int IntKind.u8 (0:Int)),AV.lit (Value.int IntKind.u8 (0:Int)),AV.lit (Value.int IntKind.u8 (0:Int)),AV.lit (Value.int IntKind.u8 (0:Int)),AV.lit (Value.int IntKind.u8 (0:Int)),AV.lit (Value.int IntKind.u8 (0:Int)),AV.lit (Value.int IntKind.u8 (0:Int)),AV.lit (Value.int IntKind.u8 (0:Int)),AV.lit (Value.int IntKind.u8 (0:Int)),AV.lit (Value.int IntKind.u8 (0:Int)),AV.lit (Value.int IntKind.u8 i2)] }),(1048578,{ id:=[1,0],obj:=AObj.row true 2 [AV.agg [AV.lst false 1 (List.map i0 xs),AV.lit (Value.int IntKind.i64 at1)]] })]=hpL [(1048577,{ id:=[0,0],obj:=AObj.row true 1 [AV.lit (Value.int IntKind.u8 (List.getD [hb0 p,p / (6:Int)*(16:Int) % (256:Int),p*7 % (256:Int)] 0 (if 0=31 then p else (0:Int)))),AV.lit (Value.int IntKind.u8 (List.getD [hb0 p,p / (6:Int)*(16:Int) % (256:Int),p*7 % (256:Int)] 1 (if 1=31 then p else (0:Int)))),AV.lit (Value.int IntKind.u8 (List.getD [hb0 p,p / (6:Int)*(16:Int) % (256:Int),p*7 % (256:Int)] 2 (if 2=31 then p else (0:Int)))),AV.lit (Value.int IntKind.u8 (List.getD [hb0 p,p / (6:Int)*(16:Int) % (256:Int),p*7 % (256:Int)] 3 (if 3=31 then p else (0:Int)))),AV.lit (Value.int IntKind.u8 (List.getD [hb0 p,p / (6:Int)*(16:Int) % (256:Int),p*7 % (256:Int)] 4 (if 4=31 then p else (0:Int)))),AV.lit (Value.int IntKind.u8 (List.getD [hb0 p,p / (6:Int)*(16:Int) % (256:Int),p*7 % (256:Int)] 5 (if 5=31 then p else (0:Int)))),AV.lit (Value.int IntKind.u8 (List.getD [hb0 p,p / (6:Int)*(16:Int) % (256:Int),p*7 % (256:Int)] 6 (if 6=31 then p else (0:Int)))),AV.lit (Value.int IntKind.u8 (List.getD [hb0 p,p / (6:Int)*(16:Int) % (256:Int),p*7 % (256:Int)] 7 (if 7=31 then p else (0:Int)))),AV.lit (Value.int IntKind.u8 (List.getD [hb0 p,p / (6:Int)*(16:Int) % (256:Int),p*7 % (256:Int)] 8 (if 8=31 then p else (0:Int)))),AV.lit (Value.int IntKind.u8 (List.getD [hb0 p,p / (6:Int)*(16:Int) % (256:Int),p*7 % (256:Int)] 9 (if 9=31 then p else (0:Int)))),AV.lit (Value.int IntKind.u8 (List.getD [hb0 p,p / (6:Int)*(16:Int) % (256:Int),p*7 % (256:Int)] 10 (if 10=31 then p else (0:Int)))),AV.lit (Value.int IntKind.u8 (List.getD [hb0 p,p / (6:Int)*(16:Int) % (256:Int),p*7 % (256:Int)] 11 (if 11=31 then p else (0:Int)))),AV.lit (Value.int IntKind.u8 (List.getD [hb0 p,p / (6:Int)*(16:Int) % (256:Int),p*7 % (256:Int)] 12 (if 12=31 then p else (0:Int)))),AV.lit (Value.int IntKind.u8 (List.getD [hb0 p,p / (6:Int)*(16:Int) % (256:Int),p*7 % (256:Int)] 13 (if 13=31 then p else (0:Int)))),AV.lit (Value.int IntKind.u8 (List.getD [hb0 p,p / (6:Int)*(16:Int) % (256:Int),p*7 % (256:Int)] 14 (if 14=31 then p else (0:Int)))),AV.lit (Value.int IntKind.u8 (List.getD [hb0 p,p / (6:Int)*(16:Int) % (256:Int),p*7 % (256:Int)] 15 (if 15=31 then p else (0:Int)))),AV.lit (Value.int IntKind.u8 (List.getD [hb0 p,p / (6:Int)*(16:Int) % (256:Int),p*7 % (256:Int)] 16 (if 16=31 then p else (0:Int)))),AV.lit (Value.int IntKind.u8 (List.getD [hb0 p,p / (6:Int)*(16:Int) % (256:Int),p*7 % (256:Int)] 17 (if 17=31 then p else (0:Int)))),AV.lit (Value.int IntKind.u8 (List.getD [hb0 p,p / (6:Int)*(16:Int) % (256:Int),p*7 % (256:Int)] 18 (if 18=31 then p else (0:Int)))),AV.lit (Value.int IntKind.u8 (List.getD [hb0 p,p / (6:Int)*(16:Int) % (256:Int),p*7 % (256:Int)] 19 (if 19=31 then p else (0:Int)))),AV.lit (Value.int IntKind.u8 (List.getD [hb0 p,p / (6:Int)*(16:Int) % (256:Int),p*7 % (256:Int)] 20 (if 20=31 then p else (0:Int)))),AV.lit (Value.int IntKind.u8 (List.getD [hb0 p,p / (6:Int)*(16:Int) % (256:Int),p*7 % (256:Int)] 21 (if 21=31 then p else (0:Int)))),AV.lit (Value.int IntKind.u8 (List.getD [hb0 p,p / (6:Int)*(16:Int) % (256:Int),p*7 % (256:Int)] 22 (if 22=31 then p else (0:Int)))),AV.lit (Value.int IntKind.u8 (List.getD [hb0 p,p / (6:Int)*(16:Int) % (256:Int),p*7 % (256:Int)] 23 (if 23=31 then p else (0:Int)))),AV.lit (Value.int IntKind.u8 (List.getD [hb0 p,p / (6:Int)*(16:Int) % (256:Int),p*7 % (256:Int)] 24 (if 24=31 then p else (0:Int)))),AV.lit (Value.int IntKind.u8 (List.getD [hb0 p,p / (6:Int)*(16:Int) % (256:Int),p*7 % (256:Int)] 25 (if 25=31 then p else (0:Int)))),AV.lit (Value.int IntKind.u8 (List.getD [hb0 p,p / (6:Int)*(16:Int) % (256:Int),p*7 % (256:Int)] 26 (if 26=31 then p else (0:Int)))),AV.lit (Value.int IntKind.u8 (List.getD [hb0 p,p / (6:Int)*(16:Int) % (256:Int),p*7 % (256:Int)] 27 (if 27=31 then p else (0:Int)))),AV.lit (Value.int IntKind.u8 (List.getD [hb0 p,p / (6:Int)*(16:Int) % (256:Int),p*7 % (256:Int)] 28 (if 28=31 then p else (0:Int)))),AV.lit (Value.int IntKind.u8 (List.getD [hb0 p,p / (6:Int)*(16:Int) % (256:Int),p*7 % (256:Int)] 29 (if 29=31 then p else (0:Int)))),AV.lit (Value.int IntKind.u8 (List.getD [hb0 p,p / (6:Int)*(16:Int) % (256:Int),p*7 % (256:Int)] 30 (if 30=31 then p else (0:Int)))),AV.lit (Value.int IntKind.u8 (List.getD [hb0 p,p / (6:Int)*(16:Int) % (256:Int),p*7 % (256:Int)] 31 (if 31=31 then p else (0:Int))))] }),(1048578,{ id:=[1,0],obj:=AObj.row true 2 [AV.agg [AV.lst false 1 (List.map i0 xs),AV.lit (Value.int IntKind.i64 at1)]] })])/\∃ (_:Unit),(True/\Wks [AV.ptr 1048577 [0,0] 0 0,AV.lit (Value.int IntKind.i64 12)] [AV.ptr 1048577 [0,0] 0 0,AV.lit (Value.int IntKind.i64 12)]/\hpL [(1048577,{ id:=[0,0],obj:=AObj.row true 2 [AV.agg [AV.lst false 1 (List.map i0 xs),AV.lit (Value.int IntKind.i64 at1)]] })]=hpL [(1048577,{ id:=[0,0],obj:=AObj.row true 2 [AV.agg [AV.lst false 1 (List.map i0 xs),AV.lit (Value.int IntKind.i64 at1)]] })])/\((w==0)=true->decide ((0:Int)<=(0:Int)/\(0:Int)<=Option.getD (some (2:Int)) (↑(ByteArray.size t):Int)/\Option.getD (some (2:Int)) (↑(ByteArray.size t):Int)<=(↑(ByteArray.size t):Int)/\false=false)=true/\Wk (AV.lit (Value.string (ByteArray.extract t 0 (Int.toNat (Option.getD (some (2:Int)) (↑(ByteArray.size t):Int)))))) (AV.lit (Value.string s))/\SameH (hpL [(1048577,{ id:=[0,0],obj:=AObj.row true 2 [AV.agg [AV.lst false 1 (List.map i0 xs),AV.lit (Value.int IntKind.i64 at2)]] })]) (hpL [(1048577,{ id:=[0,0],obj:=AObj.row true 2 [AV.agg [AV.lst false 1 (List.map i0 xs),AV.lit (Value.int IntKind.i64 at2)]] })]))/\((w==0)=false->((w==1)=true->decide ((0:Int)<=(0:Int)/\(0:Int)<=Option.getD (some (4:Int)) (↑(ByteArray.size t):Int)/\Option.getD (some (4:Int)) (↑(ByteArray.size t):Int)<=(↑(ByteArray.size t):Int)/\false=false)=true/\Wk (AV.lit (Value.string (ByteArray.extract t 0 (Int.toNat (Option.getD (some (4:Int)) (↑(ByteArray.size t):Int)))))) (AV.lit (Value.string s))/\SameH (hpL [(1048577,{ id:=[0,0],obj:=AObj.row true 2 [AV.agg [AV.lst false 1 (List.map i0 xs),AV.lit (Value.int IntKind.i64 at2)]] })]) (hpL [(1048577,{ id:=[0,0],obj:=AObj.row true 2 [AV.agg [AV.lst false 1 (List.map i0 xs),AV.lit (Value.int IntKind.i64 at2)]] })]))/\((w==1)=false->((w==2)=true->Wk (AV.lit (Value.string ⟨⟨[(48:UInt8),(48:UInt8)]⟩⟩)) (AV.lit (Value.string s))/\SameH (hpL [(1048577,{ id:=[0,0],obj:=AObj.row true 2 [AV.agg [AV.lst false 1 (List.map i0 xs),AV.lit (Value.int IntKind.i64 at2)]] })]) (hpL [(1048577,{ id:=[0,0],obj:=AObj.row true 2 [AV.agg [AV.lst false 1 (List.map i0 xs),AV.lit (Value.int IntKind.i64 at2)]] })]))/\((w==2)=false->((w==3)=true->true=true/\decide ((0:Int)<=(0:Int)/\(0:Int)<=Option.getD (some (6:Int)) (↑(ByteArray.size t):Int)/\Option.getD (some (6:Int)) (↑(ByteArray.size t):Int)<=(↑(ByteArray.size t):Int)/\false=false)=true/\Wk (AV.lit (Value.string (ByteArray.extract t 0 (Int.toNat (Option.getD (some (6:Int)) (↑(ByteArray.size t):Int)))))) (AV.lit (Value.string s))/\SameH (hpL [(1048577,{ id:=[0,0],obj:=AObj.row true 2 [AV.agg [AV.lst false 1 (List.map i0 xs),AV.lit (Value.int IntKind.i64 at2)]] })]) (hpL [(1048577,{ id:=[0,0],obj:=AObj.row true 2 [AV.agg [AV.lst false 1 (List.map i0 xs),AV.lit (Value.int IntKind.i64 at2)]] })]))/\((w==3)=false->((w==4)=true->true=true/\decide ((0:Int)<=(0:Int)/\(0:Int)<=Option.getD (some (6:Int)) (↑(ByteArray.size t):Int)/\Option.getD (some (6:Int)) (↑(ByteArray.size t):Int)<=(↑(ByteArray.size t):Int)/\false=false)=true/\Wk (AV.lit (Value.string (ByteArray.extract t 0 (Int.toNat (Option.getD (some (6:Int)) (↑(ByteArray.size t):Int)))))) (AV.lit (Value.string s))/\SameH (hpL [(1048577,{ id:=[0,0],obj:=AObj.row true 2 [AV.agg [AV.lst false 1 (List.map i0 xs),AV.lit (Value.int IntKind.i64 at2)]] })]) (hpL [(1048577,{ id:=[0,0],obj:=AObj.row true 2 [AV.agg [AV.lst false 1 (List.map i0 xs),AV.lit (Value.int IntKind.i64 at2)]] })]))/\((w==4)=false->((w==5)=true->decide ((0:Int)<=(0:Int)/\(0:Int)<=Option.getD (some (6:Int)) (↑(ByteArray.size t):Int)/\Option.getD (some (6:Int)) (↑(ByteArray.size t):Int)<=(↑(ByteArray.size t):Int)/\false=false)=true/\Wk (AV.lit (Value.string (ByteArray.extract t 0 (Int.toNat (Option.getD (some (6:Int)) (↑(ByteArray.size t):Int)))))) (AV.lit (Value.string s))/\SameH (hpL [(1048577,{ id:=[0,0],obj:=AObj.row true 2 [AV.agg [AV.lst false 1 (List.map i0 xs),AV.lit (Value.int IntKind.i64 at2)]] })]) (hpL [(1048577,{ id:=[0,0],obj:=AObj.row true 2 [AV.agg [AV.lst false 1 (List.map i0 xs),AV.lit (Value.int IntKind.i64 at2)]] })]))/\((w==5)=false->Wk (AV.lit (Value.string t)) (AV.lit (Value.string s))/\SameH (hpL [(1048577,{ id:=[0,0],obj:=AObj.row true 2 [AV.agg [AV.lst false 1 (List.map i0 xs),AV.lit (Value.int IntKind.i64 at2)]] })]) (hpL [(1048577,{ id:=[0,0],obj:=AObj.row true 2 [AV.agg [AV.lst false 1 (List.map i0 xs),AV.lit (Value.int IntKind.i64 at2)]] })])))))))):=by kernel_rfl
end Go.Proofs.YtpofhijgccocpaaGreatDoor
end
section
namespace Go.Proofs.YtpofhijgccocpaaGreatDoor
open Go.AS Go.TP
noncomputable section
theorem zaxB:((XK.ask [zaaP]).askAt zaaP [32,33]).Sound:=(zawd.ask _).askAt _ _
theorem zaAk (n:Int):zaak (Cx.B (cxV (WX.askAt (WX.ask XK [zaaP]) zaaP [32,33]) 10 zaaP)) shN 3 (i0 n)=true:=by kernel_rfl
def okXs (xs:List Int):Prop:=∀ x∈xs,-9223372036854775808<=x/\x<9223372036854775808
theorem zamY (at_ n:Int):zaup (Orc.t Orc.z) at_ n:=by
 rw [zamX]; exact ⟨rfl, .refl _, .rfl⟩
theorem zap6 (xs:List Int)(at_ n:Int)(hx:okXs xs)(hl:xs≠[])(h0:0<=at_)(h1:at_<=1000000)(hn:0<n)(hm:n<=1000000) :
  ∃ v,0<=v/\v<n/\zazP (Orc.f Orc.z) xs at_ n v:=by
 have hp:0<xs.length:=List.length_pos_iff.2 hl
 have hp':(0:Int)<(xs.length:Int):=by omega
 have tm:(at_+1).tmod xs.length=(at_+1) % xs.length:=Int.tmod_eq_emod_of_nonneg (by omega)
 have td:(at_+1).tdiv xs.length=(at_+1) / xs.length:=Int.tdiv_eq_ediv_of_nonneg (by omega)
 have k1:=Int.emod_nonneg (at_+1) (by omega:(xs.length:Int)≠0)
 have k2:=Int.emod_lt_of_pos (at_+1) hp'
 have k3:0<=(at_+1) / xs.length:=Int.ediv_nonneg (by omega) (by omega)
 have k4:(at_+1) / xs.length<=at_+1:=Int.ediv_le_self _ (by omega)
 let k:=((at_+1) % (xs.length:Int)).toNat
 have hk:k<xs.length:=by show ((at_+1) % (xs.length:Int)).toNat<_; omega
 have hg:∀ u,(xs.map i0).getD k u=i0 (xs.getD k 0):=by
  intro u
  simp [List.getD_eq_getElem?_getD,List.getElem?_map,List.getElem?_eq_getElem hk]
 have hxk : -9223372036854775808<=xs.getD k 0/\xs.getD k 0<9223372036854775808:=by
  have:xs.getD k 0=xs[k]:=by simp [List.getD_eq_getElem?_getD,List.getElem?_eq_getElem hk]
  rw [this]; exact hx _ (List.getElem_mem hk)
 refine ⟨(xs.getD k 0).tdiv (1+(at_+1) / xs.length) % n,Int.emod_nonneg _ (by omega),Int.emod_lt_of_pos _ hn,?_⟩
 rw [zap5]
 simp only [List.length_map,tm,td]
 rw [show ((at_+1) % (xs.length:Int)).toNat=k from rfl,hg]
 have q1:(0:Int)<=(at_+1) / xs.length:=k3
 generalize (at_+1) / (xs.length:Int)=D at k3 k4 q1 ⊢
 have hb:((xs.length:Int)==0)=false:=beq_eq_false_iff_ne.2 (by omega)
 have hbd:((1+D:Int)==0)=false:=beq_eq_false_iff_ne.2 (by omega)
 have r1 : -9223372036854775808<=(xs.getD k 0).tdiv (1+D)/\(xs.getD k 0).tdiv (1+D)<9223372036854775808:=by
  have h:=hxk
  rcases Int.le_total 0 (xs.getD k 0) with hc | hc
  · have a:=Int.tdiv_nonneg hc (by omega:0<=1+D)
    have b:(xs.getD k 0).tdiv (1+D)<=xs.getD k 0:=by
      rw [Int.tdiv_eq_ediv_of_nonneg hc]; exact Int.ediv_le_self _ hc
    omega
  · have hc':0 <= -(xs.getD k 0):=by omega
    have e:(xs.getD k 0).tdiv (1+D) = -((-(xs.getD k 0)).tdiv (1+D)):=by rw [Int.neg_tdiv]; omega
    have a:=Int.tdiv_nonneg hc' (by omega:0<=1+D)
    have b:(-(xs.getD k 0)).tdiv (1+D) <= -(xs.getD k 0):=by
      rw [Int.tdiv_eq_ediv_of_nonneg hc']; exact Int.ediv_le_self _ hc'
    omega
 refine ⟨hb,zaao (by omega) (by omega),by rw [hb]; rfl,?_,?_,zaao (by omega) (by omega),?_,(_,n),⟨⟨hn,hm⟩, .refl _,trivial⟩, .refl _, .rfl⟩
 · rw [decide_eq_true ⟨k1,k2⟩,zaAk]; rfl
 · rw [hb,zaao (by omega) (by omega)]; rfl
 · rw [hbd]
   show (inR .i64 ((xs.getD k 0).tdiv (1+D))&&true)=true
   rw [zaao (by omega) (by omega)]; rfl
attribute [local irreducible] runF in
set_option maxRecDepth 100000 in
theorem zacr (xs:List Int)(at_ n:Int)(hx:okXs xs)(h0:0<=at_)(h1:at_<=1000000)(hn:0<n)(hm:n<=1000000) :
  ∃ v at',0<=v/\v<n/\at_<=at'/\at'<=at_+1/\FOk Tryz.prog gl0 zaaP [mArg,i0 n] (zajS xs at_) (mOut xs at' (i0 v)):=by
 by_cases hl:xs=[]
 · subst hl
   refine ⟨0,at_,by omega,hn,by omega,by omega,?_⟩
   exact zadS (X:=XK.ask [zaaP]) (d:=10) (zawd.ask _) (f:=zaaP) (fn:=fn zaaP) (code:=code zaaP) (fnOk zaaP (by kernel_rfl)) (show (fn zaaP).body=some (code zaaP) by kernel_rfl) (by kernel_rfl) (zamY at_ n)
 · obtain ⟨v,a,b,g⟩:=zap6 xs at_ n hx hl h0 h1 hn hm
   exact ⟨v,at_+1,a,b,by omega,by omega,zadS (X:=(XK.ask [zaaP]).askAt zaaP [32,33]) (d:=10) zaxB (f:=zaaP) (fn:=fn zaaP) (code:=code zaaP) (fnOk zaaP (by kernel_rfl)) (show (fn zaaP).body=some (code zaaP) by kernel_rfl) (by kernel_rfl) g⟩
def hiB (x:Int):ByteArray:=ByteArray.extract digs (Int.toNat (Option.getD (some (IntKind.wrap IntKind.u8 (Int.tdiv x (16:Int)))) (0:Int))) (Int.toNat (Option.getD (some (IntKind.wrap IntKind.u8 (IntKind.wrap IntKind.u8 (Int.tdiv x (16:Int))+(1:Int)))) (16:Int)))
def loB (x:Int):ByteArray:=ByteArray.extract digs (Int.toNat (Option.getD (some (Int.tmod x (16:Int))) (0:Int))) (Int.toNat (Option.getD (some (IntKind.wrap IntKind.u8 (Int.tmod x (16:Int)+(1:Int)))) (16:Int)))
theorem hi_n {x:Int}(h:0<=x/\x<256):IntKind.wrap IntKind.u8 (Int.tdiv x 16)=x / 16:=by
 rw [zaif,Int.tdiv_eq_ediv_of_nonneg h.1]; omega
theorem hi_m {x:Int}(h:0<=x/\x<256):IntKind.wrap IntKind.u8 (IntKind.wrap IntKind.u8 (Int.tdiv x 16)+1)=x / 16+1:=by
 rw [hi_n h,zaif]; omega
theorem lo_n {x:Int}(h:0<=x/\x<256):Int.tmod x 16=x % 16:=Int.tmod_eq_emod_of_nonneg h.1
theorem lo_m {x:Int}(h:0<=x/\x<256):IntKind.wrap IntKind.u8 (Int.tmod x 16+1)=x % 16+1:=by
 rw [lo_n h,zaif]; omega
theorem zacP {x:Int}(h:0<=x/\x<256):decide ((0:Int)<=Option.getD (some (IntKind.wrap IntKind.u8 (Int.tdiv x (16:Int)))) (0:Int)/\Option.getD (some (IntKind.wrap IntKind.u8 (Int.tdiv x (16:Int)))) (0:Int)<=Option.getD (some (IntKind.wrap IntKind.u8 (IntKind.wrap IntKind.u8 (Int.tdiv x (16:Int))+(1:Int)))) (16:Int)/\Option.getD (some (IntKind.wrap IntKind.u8 (IntKind.wrap IntKind.u8 (Int.tdiv x (16:Int))+(1:Int)))) (16:Int)<=(16:Int)/\false=false)=true:=by
 rw [hi_m h,hi_n h,Option.getD_some,Option.getD_some,decide_eq_true_iff]
 exact ⟨by omega,by omega,by omega,rfl⟩
theorem zacO {x:Int}(h:0<=x/\x<256):decide ((0:Int)<=Option.getD (some (Int.tmod x (16:Int))) (0:Int)/\Option.getD (some (Int.tmod x (16:Int))) (0:Int)<=Option.getD (some (IntKind.wrap IntKind.u8 (Int.tmod x (16:Int)+(1:Int)))) (16:Int)/\Option.getD (some (IntKind.wrap IntKind.u8 (Int.tmod x (16:Int)+(1:Int)))) (16:Int)<=(16:Int)/\false=false)=true:=by
 rw [lo_m h,lo_n h,Option.getD_some,Option.getD_some,decide_eq_true_iff]
 exact ⟨by omega,by omega,by omega,rfl⟩
theorem zai5:digs.size=16:=rfl
theorem zaaF {x:Int}(h:0<=x/\x<256):(hiB x).size=1:=by
 unfold hiB
 rw [hi_m h,hi_n h,Option.getD_some,Option.getD_some,ByteArray.size_extract,zai5]; omega
theorem zaaE {x:Int}(h:0<=x/\x<256):(loB x).size=1:=by
 unfold loB
 rw [lo_m h,lo_n h,Option.getD_some,Option.getD_some,ByteArray.size_extract,zai5]; omega
theorem zaba {s t:ByteArray}{n:Nat}(hs:s.size=n)(ht:t.size=1)(hn:n<=100):decide (s.size+t.size<=9223372036854775807)=true:=decide_eq_true (by omega)
def nxt (s:ByteArray)(x:Int):ByteArray:=s++hiB x++loB x
theorem sz1 {s:ByteArray}{n:Nat}{x:Int}(hs:s.size=n)(h:0<=x/\x<256):(s++hiB x).size=n+1:=by rw [ByteArray.size_append,zaaF h,hs]
theorem zaap {s:ByteArray}{n:Nat}{x:Int}(hs:s.size=n)(h:0<=x/\x<256):(nxt s x).size=n+2:=by unfold nxt; rw [ByteArray.size_append,zaaE h,sz1 hs h]
abbrev BNm (xs:List Int)(at_:Int)(h:Nat->Int)(s:ByteArray)(i:Int)(t:ByteArray):Prop:=zadp Tryz.prog gl0 (fn zaa7).ntmps (zabw (code zaa7) 0) [0,3,4,5,6] (fun _=>[0,4]) (zav3 s i) (zasC xs at_ h) fun _ q=>q=nOut xs at_ h t
abbrev zazx (Q:ByteArray->Prop)(xs:List Int)(at_:Int)(h:Nat->Int)(i:Int)(t:ByteArray):Spl:=⟨ByteArray,fun s=>Q s,fun s=>zav3 s i,fun _=>zasC xs at_ h,fun _=>nOut xs at_ h t⟩
attribute [local irreducible] runL in
set_option maxRecDepth 100000 in
theorem zaaD {os:Orc}{Q:ByteArray->Prop}{xs:List Int}{at_:Int}{h:Nat->Int}{s t:ByteArray}{i j:Int}(ih:∀ s',Q s'->BNm xs at_ h s' j t)(g:rNm os Q xs at_ h s i j t):BNm xs at_ h s i t :=
 zaf1 (X:=XB.ask [zaa7]) (zabg.ask _) (f:=zaa7) (fn:=fn zaa7) (code:=code zaa7) (fnOk zaa7 (by kernel_rfl)) (show (fn zaa7).body=some (code zaa7) by kernel_rfl) (L:=lpNm Q xs at_ h j (nOut xs at_ h t)) (L':=lpNm Q xs at_ h j (nOut xs at_ h t)) (l:=[zazx Q xs at_ h j t]) rfl (show ([0,3,4,5,6]:List Nat).Nodup by decide)
  (fun s' hs' q hq=>by obtain rfl:=List.mem_singleton.1 hs'; exact ih q hq) g
attribute [local irreducible] runL in
theorem nm32 (xs:List Int)(at_:Int)(h:Nat->Int)(s:ByteArray)(hs:s.size=64):∃ t,t.size=64/\BNm xs at_ h s 32 t:=by
 refine ⟨s,hs,zaaD (Q:=fun _=>False) (os:=Orc.f Orc.z) (j:=33) (fun _ h=>h.elim) ?_⟩
 show zaxY (Orc.f Orc.z) (fun _=>False) xs at_ h s s
 rw [zaoQ]
 exact ⟨rfl,rfl, .refl _, .rfl⟩
attribute [local irreducible] runL in
theorem nm31 (xs:List Int)(at_:Int)(h:Nat->Int)(hh:∀ k,0<=h k/\h k<256)(s:ByteArray)(hs:s.size=62):∃ t,t.size=64/\BNm xs at_ h s 31 t:=by
 obtain ⟨t,ht,hB⟩:=nm32 xs at_ h (nxt s (h 31)) (zaap hs (hh 31))
 refine ⟨t,ht,zaaD (Q:=fun s'=>s'=nxt s (h 31)) (os:=Orc.t Orc.z) (j:=32) (fun s' e=>by rw [e]; exact hB) ?_⟩
 show zaxZ (Orc.t Orc.z) (fun s'=>s'=nxt s (h 31)) xs at_ h s t
 rw [zaoR]
 exact ⟨rfl,rfl,rfl,rfl,zacP (hh 31),zaba hs (zaaF (hh 31)) (by decide),rfl,rfl,rfl,zacO (hh 31),zaba (sz1 hs (hh 31)) (zaaE (hh 31)) (by decide),rfl,nxt s (h 31),⟨rfl, .refl _,rfl⟩,rfl, .refl _, .rfl⟩
attribute [local irreducible] runL in
theorem nm30 (xs:List Int)(at_:Int)(h:Nat->Int)(hh:∀ k,0<=h k/\h k<256)(s:ByteArray)(hs:s.size=60):∃ t,t.size=64/\BNm xs at_ h s 30 t:=by
 obtain ⟨t,ht,hB⟩:=nm31 xs at_ h hh (nxt s (h 30)) (zaap hs (hh 30))
 refine ⟨t,ht,zaaD (Q:=fun s'=>s'=nxt s (h 30)) (os:=Orc.t Orc.z) (j:=31) (fun s' e=>by rw [e]; exact hB) ?_⟩
 show zax0 (Orc.t Orc.z) (fun s'=>s'=nxt s (h 30)) xs at_ h s t
 rw [zaoS]
 exact ⟨rfl,rfl,rfl,rfl,zacP (hh 30),zaba hs (zaaF (hh 30)) (by decide),rfl,rfl,rfl,zacO (hh 30),zaba (sz1 hs (hh 30)) (zaaE (hh 30)) (by decide),rfl,nxt s (h 30),⟨rfl, .refl _,rfl⟩,rfl, .refl _, .rfl⟩
attribute [local irreducible] runL in
theorem nm29 (xs:List Int)(at_:Int)(h:Nat->Int)(hh:∀ k,0<=h k/\h k<256)(s:ByteArray)(hs:s.size=58):∃ t,t.size=64/\BNm xs at_ h s 29 t:=by
 obtain ⟨t,ht,hB⟩:=nm30 xs at_ h hh (nxt s (h 29)) (zaap hs (hh 29))
 refine ⟨t,ht,zaaD (Q:=fun s'=>s'=nxt s (h 29)) (os:=Orc.t Orc.z) (j:=30) (fun s' e=>by rw [e]; exact hB) ?_⟩
 show zax1 (Orc.t Orc.z) (fun s'=>s'=nxt s (h 29)) xs at_ h s t
 rw [zaoT]
 exact ⟨rfl,rfl,rfl,rfl,zacP (hh 29),zaba hs (zaaF (hh 29)) (by decide),rfl,rfl,rfl,zacO (hh 29),zaba (sz1 hs (hh 29)) (zaaE (hh 29)) (by decide),rfl,nxt s (h 29),⟨rfl, .refl _,rfl⟩,rfl, .refl _, .rfl⟩
attribute [local irreducible] runL in
theorem nm28 (xs:List Int)(at_:Int)(h:Nat->Int)(hh:∀ k,0<=h k/\h k<256)(s:ByteArray)(hs:s.size=56):∃ t,t.size=64/\BNm xs at_ h s 28 t:=by
 obtain ⟨t,ht,hB⟩:=nm29 xs at_ h hh (nxt s (h 28)) (zaap hs (hh 28))
 refine ⟨t,ht,zaaD (Q:=fun s'=>s'=nxt s (h 28)) (os:=Orc.t Orc.z) (j:=29) (fun s' e=>by rw [e]; exact hB) ?_⟩
 show zax2 (Orc.t Orc.z) (fun s'=>s'=nxt s (h 28)) xs at_ h s t
 rw [zaoU]
 exact ⟨rfl,rfl,rfl,rfl,zacP (hh 28),zaba hs (zaaF (hh 28)) (by decide),rfl,rfl,rfl,zacO (hh 28),zaba (sz1 hs (hh 28)) (zaaE (hh 28)) (by decide),rfl,nxt s (h 28),⟨rfl, .refl _,rfl⟩,rfl, .refl _, .rfl⟩
attribute [local irreducible] runL in
theorem nm27 (xs:List Int)(at_:Int)(h:Nat->Int)(hh:∀ k,0<=h k/\h k<256)(s:ByteArray)(hs:s.size=54):∃ t,t.size=64/\BNm xs at_ h s 27 t:=by
 obtain ⟨t,ht,hB⟩:=nm28 xs at_ h hh (nxt s (h 27)) (zaap hs (hh 27))
 refine ⟨t,ht,zaaD (Q:=fun s'=>s'=nxt s (h 27)) (os:=Orc.t Orc.z) (j:=28) (fun s' e=>by rw [e]; exact hB) ?_⟩
 show zax3 (Orc.t Orc.z) (fun s'=>s'=nxt s (h 27)) xs at_ h s t
 rw [zaoV]
 exact ⟨rfl,rfl,rfl,rfl,zacP (hh 27),zaba hs (zaaF (hh 27)) (by decide),rfl,rfl,rfl,zacO (hh 27),zaba (sz1 hs (hh 27)) (zaaE (hh 27)) (by decide),rfl,nxt s (h 27),⟨rfl, .refl _,rfl⟩,rfl, .refl _, .rfl⟩
attribute [local irreducible] runL in
theorem nm26 (xs:List Int)(at_:Int)(h:Nat->Int)(hh:∀ k,0<=h k/\h k<256)(s:ByteArray)(hs:s.size=52):∃ t,t.size=64/\BNm xs at_ h s 26 t:=by
 obtain ⟨t,ht,hB⟩:=nm27 xs at_ h hh (nxt s (h 26)) (zaap hs (hh 26))
 refine ⟨t,ht,zaaD (Q:=fun s'=>s'=nxt s (h 26)) (os:=Orc.t Orc.z) (j:=27) (fun s' e=>by rw [e]; exact hB) ?_⟩
 show zax4 (Orc.t Orc.z) (fun s'=>s'=nxt s (h 26)) xs at_ h s t
 rw [zaoW]
 exact ⟨rfl,rfl,rfl,rfl,zacP (hh 26),zaba hs (zaaF (hh 26)) (by decide),rfl,rfl,rfl,zacO (hh 26),zaba (sz1 hs (hh 26)) (zaaE (hh 26)) (by decide),rfl,nxt s (h 26),⟨rfl, .refl _,rfl⟩,rfl, .refl _, .rfl⟩
attribute [local irreducible] runL in
theorem nm25 (xs:List Int)(at_:Int)(h:Nat->Int)(hh:∀ k,0<=h k/\h k<256)(s:ByteArray)(hs:s.size=50):∃ t,t.size=64/\BNm xs at_ h s 25 t:=by
 obtain ⟨t,ht,hB⟩:=nm26 xs at_ h hh (nxt s (h 25)) (zaap hs (hh 25))
 refine ⟨t,ht,zaaD (Q:=fun s'=>s'=nxt s (h 25)) (os:=Orc.t Orc.z) (j:=26) (fun s' e=>by rw [e]; exact hB) ?_⟩
 show zax5 (Orc.t Orc.z) (fun s'=>s'=nxt s (h 25)) xs at_ h s t
 rw [zaoX]
 exact ⟨rfl,rfl,rfl,rfl,zacP (hh 25),zaba hs (zaaF (hh 25)) (by decide),rfl,rfl,rfl,zacO (hh 25),zaba (sz1 hs (hh 25)) (zaaE (hh 25)) (by decide),rfl,nxt s (h 25),⟨rfl, .refl _,rfl⟩,rfl, .refl _, .rfl⟩
attribute [local irreducible] runL in
theorem nm24 (xs:List Int)(at_:Int)(h:Nat->Int)(hh:∀ k,0<=h k/\h k<256)(s:ByteArray)(hs:s.size=48):∃ t,t.size=64/\BNm xs at_ h s 24 t:=by
 obtain ⟨t,ht,hB⟩:=nm25 xs at_ h hh (nxt s (h 24)) (zaap hs (hh 24))
 refine ⟨t,ht,zaaD (Q:=fun s'=>s'=nxt s (h 24)) (os:=Orc.t Orc.z) (j:=25) (fun s' e=>by rw [e]; exact hB) ?_⟩
 show zax6 (Orc.t Orc.z) (fun s'=>s'=nxt s (h 24)) xs at_ h s t
 rw [zaoY]
 exact ⟨rfl,rfl,rfl,rfl,zacP (hh 24),zaba hs (zaaF (hh 24)) (by decide),rfl,rfl,rfl,zacO (hh 24),zaba (sz1 hs (hh 24)) (zaaE (hh 24)) (by decide),rfl,nxt s (h 24),⟨rfl, .refl _,rfl⟩,rfl, .refl _, .rfl⟩
attribute [local irreducible] runL in
theorem nm23 (xs:List Int)(at_:Int)(h:Nat->Int)(hh:∀ k,0<=h k/\h k<256)(s:ByteArray)(hs:s.size=46):∃ t,t.size=64/\BNm xs at_ h s 23 t:=by
 obtain ⟨t,ht,hB⟩:=nm24 xs at_ h hh (nxt s (h 23)) (zaap hs (hh 23))
 refine ⟨t,ht,zaaD (Q:=fun s'=>s'=nxt s (h 23)) (os:=Orc.t Orc.z) (j:=24) (fun s' e=>by rw [e]; exact hB) ?_⟩
 show zax7 (Orc.t Orc.z) (fun s'=>s'=nxt s (h 23)) xs at_ h s t
 rw [zaoZ]
 exact ⟨rfl,rfl,rfl,rfl,zacP (hh 23),zaba hs (zaaF (hh 23)) (by decide),rfl,rfl,rfl,zacO (hh 23),zaba (sz1 hs (hh 23)) (zaaE (hh 23)) (by decide),rfl,nxt s (h 23),⟨rfl, .refl _,rfl⟩,rfl, .refl _, .rfl⟩
attribute [local irreducible] runL in
theorem nm22 (xs:List Int)(at_:Int)(h:Nat->Int)(hh:∀ k,0<=h k/\h k<256)(s:ByteArray)(hs:s.size=44):∃ t,t.size=64/\BNm xs at_ h s 22 t:=by
 obtain ⟨t,ht,hB⟩:=nm23 xs at_ h hh (nxt s (h 22)) (zaap hs (hh 22))
 refine ⟨t,ht,zaaD (Q:=fun s'=>s'=nxt s (h 22)) (os:=Orc.t Orc.z) (j:=23) (fun s' e=>by rw [e]; exact hB) ?_⟩
 show zax8 (Orc.t Orc.z) (fun s'=>s'=nxt s (h 22)) xs at_ h s t
 rw [zao0]
 exact ⟨rfl,rfl,rfl,rfl,zacP (hh 22),zaba hs (zaaF (hh 22)) (by decide),rfl,rfl,rfl,zacO (hh 22),zaba (sz1 hs (hh 22)) (zaaE (hh 22)) (by decide),rfl,nxt s (h 22),⟨rfl, .refl _,rfl⟩,rfl, .refl _, .rfl⟩
attribute [local irreducible] runL in
theorem nm21 (xs:List Int)(at_:Int)(h:Nat->Int)(hh:∀ k,0<=h k/\h k<256)(s:ByteArray)(hs:s.size=42):∃ t,t.size=64/\BNm xs at_ h s 21 t:=by
 obtain ⟨t,ht,hB⟩:=nm22 xs at_ h hh (nxt s (h 21)) (zaap hs (hh 21))
 refine ⟨t,ht,zaaD (Q:=fun s'=>s'=nxt s (h 21)) (os:=Orc.t Orc.z) (j:=22) (fun s' e=>by rw [e]; exact hB) ?_⟩
 show zax9 (Orc.t Orc.z) (fun s'=>s'=nxt s (h 21)) xs at_ h s t
 rw [zao1]
 exact ⟨rfl,rfl,rfl,rfl,zacP (hh 21),zaba hs (zaaF (hh 21)) (by decide),rfl,rfl,rfl,zacO (hh 21),zaba (sz1 hs (hh 21)) (zaaE (hh 21)) (by decide),rfl,nxt s (h 21),⟨rfl, .refl _,rfl⟩,rfl, .refl _, .rfl⟩
attribute [local irreducible] runL in
theorem nm20 (xs:List Int)(at_:Int)(h:Nat->Int)(hh:∀ k,0<=h k/\h k<256)(s:ByteArray)(hs:s.size=40):∃ t,t.size=64/\BNm xs at_ h s 20 t:=by
 obtain ⟨t,ht,hB⟩:=nm21 xs at_ h hh (nxt s (h 20)) (zaap hs (hh 20))
 refine ⟨t,ht,zaaD (Q:=fun s'=>s'=nxt s (h 20)) (os:=Orc.t Orc.z) (j:=21) (fun s' e=>by rw [e]; exact hB) ?_⟩
 show zay (Orc.t Orc.z) (fun s'=>s'=nxt s (h 20)) xs at_ h s t
 rw [zao2]
 exact ⟨rfl,rfl,rfl,rfl,zacP (hh 20),zaba hs (zaaF (hh 20)) (by decide),rfl,rfl,rfl,zacO (hh 20),zaba (sz1 hs (hh 20)) (zaaE (hh 20)) (by decide),rfl,nxt s (h 20),⟨rfl, .refl _,rfl⟩,rfl, .refl _, .rfl⟩
attribute [local irreducible] runL in
theorem nm19 (xs:List Int)(at_:Int)(h:Nat->Int)(hh:∀ k,0<=h k/\h k<256)(s:ByteArray)(hs:s.size=38):∃ t,t.size=64/\BNm xs at_ h s 19 t:=by
 obtain ⟨t,ht,hB⟩:=nm20 xs at_ h hh (nxt s (h 19)) (zaap hs (hh 19))
 refine ⟨t,ht,zaaD (Q:=fun s'=>s'=nxt s (h 19)) (os:=Orc.t Orc.z) (j:=20) (fun s' e=>by rw [e]; exact hB) ?_⟩
 show zaya (Orc.t Orc.z) (fun s'=>s'=nxt s (h 19)) xs at_ h s t
 rw [zao3]
 exact ⟨rfl,rfl,rfl,rfl,zacP (hh 19),zaba hs (zaaF (hh 19)) (by decide),rfl,rfl,rfl,zacO (hh 19),zaba (sz1 hs (hh 19)) (zaaE (hh 19)) (by decide),rfl,nxt s (h 19),⟨rfl, .refl _,rfl⟩,rfl, .refl _, .rfl⟩
attribute [local irreducible] runL in
theorem nm18 (xs:List Int)(at_:Int)(h:Nat->Int)(hh:∀ k,0<=h k/\h k<256)(s:ByteArray)(hs:s.size=36):∃ t,t.size=64/\BNm xs at_ h s 18 t:=by
 obtain ⟨t,ht,hB⟩:=nm19 xs at_ h hh (nxt s (h 18)) (zaap hs (hh 18))
 refine ⟨t,ht,zaaD (Q:=fun s'=>s'=nxt s (h 18)) (os:=Orc.t Orc.z) (j:=19) (fun s' e=>by rw [e]; exact hB) ?_⟩
 show zayb (Orc.t Orc.z) (fun s'=>s'=nxt s (h 18)) xs at_ h s t
 rw [zao4]
 exact ⟨rfl,rfl,rfl,rfl,zacP (hh 18),zaba hs (zaaF (hh 18)) (by decide),rfl,rfl,rfl,zacO (hh 18),zaba (sz1 hs (hh 18)) (zaaE (hh 18)) (by decide),rfl,nxt s (h 18),⟨rfl, .refl _,rfl⟩,rfl, .refl _, .rfl⟩
attribute [local irreducible] runL in
theorem nm17 (xs:List Int)(at_:Int)(h:Nat->Int)(hh:∀ k,0<=h k/\h k<256)(s:ByteArray)(hs:s.size=34):∃ t,t.size=64/\BNm xs at_ h s 17 t:=by
 obtain ⟨t,ht,hB⟩:=nm18 xs at_ h hh (nxt s (h 17)) (zaap hs (hh 17))
 refine ⟨t,ht,zaaD (Q:=fun s'=>s'=nxt s (h 17)) (os:=Orc.t Orc.z) (j:=18) (fun s' e=>by rw [e]; exact hB) ?_⟩
 show zayc (Orc.t Orc.z) (fun s'=>s'=nxt s (h 17)) xs at_ h s t
 rw [zao5]
 exact ⟨rfl,rfl,rfl,rfl,zacP (hh 17),zaba hs (zaaF (hh 17)) (by decide),rfl,rfl,rfl,zacO (hh 17),zaba (sz1 hs (hh 17)) (zaaE (hh 17)) (by decide),rfl,nxt s (h 17),⟨rfl, .refl _,rfl⟩,rfl, .refl _, .rfl⟩
attribute [local irreducible] runL in
theorem nm16 (xs:List Int)(at_:Int)(h:Nat->Int)(hh:∀ k,0<=h k/\h k<256)(s:ByteArray)(hs:s.size=32):∃ t,t.size=64/\BNm xs at_ h s 16 t:=by
 obtain ⟨t,ht,hB⟩:=nm17 xs at_ h hh (nxt s (h 16)) (zaap hs (hh 16))
 refine ⟨t,ht,zaaD (Q:=fun s'=>s'=nxt s (h 16)) (os:=Orc.t Orc.z) (j:=17) (fun s' e=>by rw [e]; exact hB) ?_⟩
 show zayd (Orc.t Orc.z) (fun s'=>s'=nxt s (h 16)) xs at_ h s t
 rw [zao6]
 exact ⟨rfl,rfl,rfl,rfl,zacP (hh 16),zaba hs (zaaF (hh 16)) (by decide),rfl,rfl,rfl,zacO (hh 16),zaba (sz1 hs (hh 16)) (zaaE (hh 16)) (by decide),rfl,nxt s (h 16),⟨rfl, .refl _,rfl⟩,rfl, .refl _, .rfl⟩
attribute [local irreducible] runL in
theorem nm15 (xs:List Int)(at_:Int)(h:Nat->Int)(hh:∀ k,0<=h k/\h k<256)(s:ByteArray)(hs:s.size=30):∃ t,t.size=64/\BNm xs at_ h s 15 t:=by
 obtain ⟨t,ht,hB⟩:=nm16 xs at_ h hh (nxt s (h 15)) (zaap hs (hh 15))
 refine ⟨t,ht,zaaD (Q:=fun s'=>s'=nxt s (h 15)) (os:=Orc.t Orc.z) (j:=16) (fun s' e=>by rw [e]; exact hB) ?_⟩
 show zaye (Orc.t Orc.z) (fun s'=>s'=nxt s (h 15)) xs at_ h s t
 rw [zao7]
 exact ⟨rfl,rfl,rfl,rfl,zacP (hh 15),zaba hs (zaaF (hh 15)) (by decide),rfl,rfl,rfl,zacO (hh 15),zaba (sz1 hs (hh 15)) (zaaE (hh 15)) (by decide),rfl,nxt s (h 15),⟨rfl, .refl _,rfl⟩,rfl, .refl _, .rfl⟩
attribute [local irreducible] runL in
theorem nm14 (xs:List Int)(at_:Int)(h:Nat->Int)(hh:∀ k,0<=h k/\h k<256)(s:ByteArray)(hs:s.size=28):∃ t,t.size=64/\BNm xs at_ h s 14 t:=by
 obtain ⟨t,ht,hB⟩:=nm15 xs at_ h hh (nxt s (h 14)) (zaap hs (hh 14))
 refine ⟨t,ht,zaaD (Q:=fun s'=>s'=nxt s (h 14)) (os:=Orc.t Orc.z) (j:=15) (fun s' e=>by rw [e]; exact hB) ?_⟩
 show zayf (Orc.t Orc.z) (fun s'=>s'=nxt s (h 14)) xs at_ h s t
 rw [zao8]
 exact ⟨rfl,rfl,rfl,rfl,zacP (hh 14),zaba hs (zaaF (hh 14)) (by decide),rfl,rfl,rfl,zacO (hh 14),zaba (sz1 hs (hh 14)) (zaaE (hh 14)) (by decide),rfl,nxt s (h 14),⟨rfl, .refl _,rfl⟩,rfl, .refl _, .rfl⟩
attribute [local irreducible] runL in
theorem nm13 (xs:List Int)(at_:Int)(h:Nat->Int)(hh:∀ k,0<=h k/\h k<256)(s:ByteArray)(hs:s.size=26):∃ t,t.size=64/\BNm xs at_ h s 13 t:=by
 obtain ⟨t,ht,hB⟩:=nm14 xs at_ h hh (nxt s (h 13)) (zaap hs (hh 13))
 refine ⟨t,ht,zaaD (Q:=fun s'=>s'=nxt s (h 13)) (os:=Orc.t Orc.z) (j:=14) (fun s' e=>by rw [e]; exact hB) ?_⟩
 show zayg (Orc.t Orc.z) (fun s'=>s'=nxt s (h 13)) xs at_ h s t
 rw [zao9]
 exact ⟨rfl,rfl,rfl,rfl,zacP (hh 13),zaba hs (zaaF (hh 13)) (by decide),rfl,rfl,rfl,zacO (hh 13),zaba (sz1 hs (hh 13)) (zaaE (hh 13)) (by decide),rfl,nxt s (h 13),⟨rfl, .refl _,rfl⟩,rfl, .refl _, .rfl⟩
attribute [local irreducible] runL in
theorem nm12 (xs:List Int)(at_:Int)(h:Nat->Int)(hh:∀ k,0<=h k/\h k<256)(s:ByteArray)(hs:s.size=24):∃ t,t.size=64/\BNm xs at_ h s 12 t:=by
 obtain ⟨t,ht,hB⟩:=nm13 xs at_ h hh (nxt s (h 12)) (zaap hs (hh 12))
 refine ⟨t,ht,zaaD (Q:=fun s'=>s'=nxt s (h 12)) (os:=Orc.t Orc.z) (j:=13) (fun s' e=>by rw [e]; exact hB) ?_⟩
 show zayh (Orc.t Orc.z) (fun s'=>s'=nxt s (h 12)) xs at_ h s t
 rw [zap]
 exact ⟨rfl,rfl,rfl,rfl,zacP (hh 12),zaba hs (zaaF (hh 12)) (by decide),rfl,rfl,rfl,zacO (hh 12),zaba (sz1 hs (hh 12)) (zaaE (hh 12)) (by decide),rfl,nxt s (h 12),⟨rfl, .refl _,rfl⟩,rfl, .refl _, .rfl⟩
attribute [local irreducible] runL in
theorem nm11 (xs:List Int)(at_:Int)(h:Nat->Int)(hh:∀ k,0<=h k/\h k<256)(s:ByteArray)(hs:s.size=22):∃ t,t.size=64/\BNm xs at_ h s 11 t:=by
 obtain ⟨t,ht,hB⟩:=nm12 xs at_ h hh (nxt s (h 11)) (zaap hs (hh 11))
 refine ⟨t,ht,zaaD (Q:=fun s'=>s'=nxt s (h 11)) (os:=Orc.t Orc.z) (j:=12) (fun s' e=>by rw [e]; exact hB) ?_⟩
 show zayi (Orc.t Orc.z) (fun s'=>s'=nxt s (h 11)) xs at_ h s t
 rw [zapa]
 exact ⟨rfl,rfl,rfl,rfl,zacP (hh 11),zaba hs (zaaF (hh 11)) (by decide),rfl,rfl,rfl,zacO (hh 11),zaba (sz1 hs (hh 11)) (zaaE (hh 11)) (by decide),rfl,nxt s (h 11),⟨rfl, .refl _,rfl⟩,rfl, .refl _, .rfl⟩
attribute [local irreducible] runL in
theorem nm10 (xs:List Int)(at_:Int)(h:Nat->Int)(hh:∀ k,0<=h k/\h k<256)(s:ByteArray)(hs:s.size=20):∃ t,t.size=64/\BNm xs at_ h s 10 t:=by
 obtain ⟨t,ht,hB⟩:=nm11 xs at_ h hh (nxt s (h 10)) (zaap hs (hh 10))
 refine ⟨t,ht,zaaD (Q:=fun s'=>s'=nxt s (h 10)) (os:=Orc.t Orc.z) (j:=11) (fun s' e=>by rw [e]; exact hB) ?_⟩
 show zayj (Orc.t Orc.z) (fun s'=>s'=nxt s (h 10)) xs at_ h s t
 rw [zapb]
 exact ⟨rfl,rfl,rfl,rfl,zacP (hh 10),zaba hs (zaaF (hh 10)) (by decide),rfl,rfl,rfl,zacO (hh 10),zaba (sz1 hs (hh 10)) (zaaE (hh 10)) (by decide),rfl,nxt s (h 10),⟨rfl, .refl _,rfl⟩,rfl, .refl _, .rfl⟩
attribute [local irreducible] runL in
theorem nm9 (xs:List Int)(at_:Int)(h:Nat->Int)(hh:∀ k,0<=h k/\h k<256)(s:ByteArray)(hs:s.size=18):∃ t,t.size=64/\BNm xs at_ h s 9 t:=by
 obtain ⟨t,ht,hB⟩:=nm10 xs at_ h hh (nxt s (h 9)) (zaap hs (hh 9))
 refine ⟨t,ht,zaaD (Q:=fun s'=>s'=nxt s (h 9)) (os:=Orc.t Orc.z) (j:=10) (fun s' e=>by rw [e]; exact hB) ?_⟩
 show rNm9 (Orc.t Orc.z) (fun s'=>s'=nxt s (h 9)) xs at_ h s t
 rw [zarE]
 exact ⟨rfl,rfl,rfl,rfl,zacP (hh 9),zaba hs (zaaF (hh 9)) (by decide),rfl,rfl,rfl,zacO (hh 9),zaba (sz1 hs (hh 9)) (zaaE (hh 9)) (by decide),rfl,nxt s (h 9),⟨rfl, .refl _,rfl⟩,rfl, .refl _, .rfl⟩
attribute [local irreducible] runL in
theorem nm8 (xs:List Int)(at_:Int)(h:Nat->Int)(hh:∀ k,0<=h k/\h k<256)(s:ByteArray)(hs:s.size=16):∃ t,t.size=64/\BNm xs at_ h s 8 t:=by
 obtain ⟨t,ht,hB⟩:=nm9 xs at_ h hh (nxt s (h 8)) (zaap hs (hh 8))
 refine ⟨t,ht,zaaD (Q:=fun s'=>s'=nxt s (h 8)) (os:=Orc.t Orc.z) (j:=9) (fun s' e=>by rw [e]; exact hB) ?_⟩
 show rNm8 (Orc.t Orc.z) (fun s'=>s'=nxt s (h 8)) xs at_ h s t
 rw [zarF]
 exact ⟨rfl,rfl,rfl,rfl,zacP (hh 8),zaba hs (zaaF (hh 8)) (by decide),rfl,rfl,rfl,zacO (hh 8),zaba (sz1 hs (hh 8)) (zaaE (hh 8)) (by decide),rfl,nxt s (h 8),⟨rfl, .refl _,rfl⟩,rfl, .refl _, .rfl⟩
attribute [local irreducible] runL in
theorem nm7 (xs:List Int)(at_:Int)(h:Nat->Int)(hh:∀ k,0<=h k/\h k<256)(s:ByteArray)(hs:s.size=14):∃ t,t.size=64/\BNm xs at_ h s 7 t:=by
 obtain ⟨t,ht,hB⟩:=nm8 xs at_ h hh (nxt s (h 7)) (zaap hs (hh 7))
 refine ⟨t,ht,zaaD (Q:=fun s'=>s'=nxt s (h 7)) (os:=Orc.t Orc.z) (j:=8) (fun s' e=>by rw [e]; exact hB) ?_⟩
 show rNm7 (Orc.t Orc.z) (fun s'=>s'=nxt s (h 7)) xs at_ h s t
 rw [zarG]
 exact ⟨rfl,rfl,rfl,rfl,zacP (hh 7),zaba hs (zaaF (hh 7)) (by decide),rfl,rfl,rfl,zacO (hh 7),zaba (sz1 hs (hh 7)) (zaaE (hh 7)) (by decide),rfl,nxt s (h 7),⟨rfl, .refl _,rfl⟩,rfl, .refl _, .rfl⟩
attribute [local irreducible] runL in
theorem nm6 (xs:List Int)(at_:Int)(h:Nat->Int)(hh:∀ k,0<=h k/\h k<256)(s:ByteArray)(hs:s.size=12):∃ t,t.size=64/\BNm xs at_ h s 6 t:=by
 obtain ⟨t,ht,hB⟩:=nm7 xs at_ h hh (nxt s (h 6)) (zaap hs (hh 6))
 refine ⟨t,ht,zaaD (Q:=fun s'=>s'=nxt s (h 6)) (os:=Orc.t Orc.z) (j:=7) (fun s' e=>by rw [e]; exact hB) ?_⟩
 show rNm6 (Orc.t Orc.z) (fun s'=>s'=nxt s (h 6)) xs at_ h s t
 rw [zarH]
 exact ⟨rfl,rfl,rfl,rfl,zacP (hh 6),zaba hs (zaaF (hh 6)) (by decide),rfl,rfl,rfl,zacO (hh 6),zaba (sz1 hs (hh 6)) (zaaE (hh 6)) (by decide),rfl,nxt s (h 6),⟨rfl, .refl _,rfl⟩,rfl, .refl _, .rfl⟩
attribute [local irreducible] runL in
theorem nm5 (xs:List Int)(at_:Int)(h:Nat->Int)(hh:∀ k,0<=h k/\h k<256)(s:ByteArray)(hs:s.size=10):∃ t,t.size=64/\BNm xs at_ h s 5 t:=by
 obtain ⟨t,ht,hB⟩:=nm6 xs at_ h hh (nxt s (h 5)) (zaap hs (hh 5))
 refine ⟨t,ht,zaaD (Q:=fun s'=>s'=nxt s (h 5)) (os:=Orc.t Orc.z) (j:=6) (fun s' e=>by rw [e]; exact hB) ?_⟩
 show rNm5 (Orc.t Orc.z) (fun s'=>s'=nxt s (h 5)) xs at_ h s t
 rw [zarI]
 exact ⟨rfl,rfl,rfl,rfl,zacP (hh 5),zaba hs (zaaF (hh 5)) (by decide),rfl,rfl,rfl,zacO (hh 5),zaba (sz1 hs (hh 5)) (zaaE (hh 5)) (by decide),rfl,nxt s (h 5),⟨rfl, .refl _,rfl⟩,rfl, .refl _, .rfl⟩
attribute [local irreducible] runL in
theorem nm4 (xs:List Int)(at_:Int)(h:Nat->Int)(hh:∀ k,0<=h k/\h k<256)(s:ByteArray)(hs:s.size=8):∃ t,t.size=64/\BNm xs at_ h s 4 t:=by
 obtain ⟨t,ht,hB⟩:=nm5 xs at_ h hh (nxt s (h 4)) (zaap hs (hh 4))
 refine ⟨t,ht,zaaD (Q:=fun s'=>s'=nxt s (h 4)) (os:=Orc.t Orc.z) (j:=5) (fun s' e=>by rw [e]; exact hB) ?_⟩
 show rNm4 (Orc.t Orc.z) (fun s'=>s'=nxt s (h 4)) xs at_ h s t
 rw [zarJ]
 exact ⟨rfl,rfl,rfl,rfl,zacP (hh 4),zaba hs (zaaF (hh 4)) (by decide),rfl,rfl,rfl,zacO (hh 4),zaba (sz1 hs (hh 4)) (zaaE (hh 4)) (by decide),rfl,nxt s (h 4),⟨rfl, .refl _,rfl⟩,rfl, .refl _, .rfl⟩
attribute [local irreducible] runL in
theorem nm3 (xs:List Int)(at_:Int)(h:Nat->Int)(hh:∀ k,0<=h k/\h k<256)(s:ByteArray)(hs:s.size=6):∃ t,t.size=64/\BNm xs at_ h s 3 t:=by
 obtain ⟨t,ht,hB⟩:=nm4 xs at_ h hh (nxt s (h 3)) (zaap hs (hh 3))
 refine ⟨t,ht,zaaD (Q:=fun s'=>s'=nxt s (h 3)) (os:=Orc.t Orc.z) (j:=4) (fun s' e=>by rw [e]; exact hB) ?_⟩
 show rNm3 (Orc.t Orc.z) (fun s'=>s'=nxt s (h 3)) xs at_ h s t
 rw [zarK]
 exact ⟨rfl,rfl,rfl,rfl,zacP (hh 3),zaba hs (zaaF (hh 3)) (by decide),rfl,rfl,rfl,zacO (hh 3),zaba (sz1 hs (hh 3)) (zaaE (hh 3)) (by decide),rfl,nxt s (h 3),⟨rfl, .refl _,rfl⟩,rfl, .refl _, .rfl⟩
attribute [local irreducible] runL in
theorem nm2 (xs:List Int)(at_:Int)(h:Nat->Int)(hh:∀ k,0<=h k/\h k<256)(s:ByteArray)(hs:s.size=4):∃ t,t.size=64/\BNm xs at_ h s 2 t:=by
 obtain ⟨t,ht,hB⟩:=nm3 xs at_ h hh (nxt s (h 2)) (zaap hs (hh 2))
 refine ⟨t,ht,zaaD (Q:=fun s'=>s'=nxt s (h 2)) (os:=Orc.t Orc.z) (j:=3) (fun s' e=>by rw [e]; exact hB) ?_⟩
 show rNm2 (Orc.t Orc.z) (fun s'=>s'=nxt s (h 2)) xs at_ h s t
 rw [zarL]
 exact ⟨rfl,rfl,rfl,rfl,zacP (hh 2),zaba hs (zaaF (hh 2)) (by decide),rfl,rfl,rfl,zacO (hh 2),zaba (sz1 hs (hh 2)) (zaaE (hh 2)) (by decide),rfl,nxt s (h 2),⟨rfl, .refl _,rfl⟩,rfl, .refl _, .rfl⟩
attribute [local irreducible] runL in
theorem nm1 (xs:List Int)(at_:Int)(h:Nat->Int)(hh:∀ k,0<=h k/\h k<256)(s:ByteArray)(hs:s.size=2):∃ t,t.size=64/\BNm xs at_ h s 1 t:=by
 obtain ⟨t,ht,hB⟩:=nm2 xs at_ h hh (nxt s (h 1)) (zaap hs (hh 1))
 refine ⟨t,ht,zaaD (Q:=fun s'=>s'=nxt s (h 1)) (os:=Orc.t Orc.z) (j:=2) (fun s' e=>by rw [e]; exact hB) ?_⟩
 show rNm1 (Orc.t Orc.z) (fun s'=>s'=nxt s (h 1)) xs at_ h s t
 rw [zarM]
 exact ⟨rfl,rfl,rfl,rfl,zacP (hh 1),zaba hs (zaaF (hh 1)) (by decide),rfl,rfl,rfl,zacO (hh 1),zaba (sz1 hs (hh 1)) (zaaE (hh 1)) (by decide),rfl,nxt s (h 1),⟨rfl, .refl _,rfl⟩,rfl, .refl _, .rfl⟩
attribute [local irreducible] runL in
theorem nm0 (xs:List Int)(at_:Int)(h:Nat->Int)(hh:∀ k,0<=h k/\h k<256)(s:ByteArray)(hs:s.size=0):∃ t,t.size=64/\BNm xs at_ h s 0 t:=by
 obtain ⟨t,ht,hB⟩:=nm1 xs at_ h hh (nxt s (h 0)) (zaap hs (hh 0))
 refine ⟨t,ht,zaaD (Q:=fun s'=>s'=nxt s (h 0)) (os:=Orc.t Orc.z) (j:=1) (fun s' e=>by rw [e]; exact hB) ?_⟩
 show rNm0 (Orc.t Orc.z) (fun s'=>s'=nxt s (h 0)) xs at_ h s t
 rw [zarN]
 exact ⟨rfl,rfl,rfl,rfl,zacP (hh 0),zaba hs (zaaF (hh 0)) (by decide),rfl,rfl,rfl,zacO (hh 0),zaba (sz1 hs (hh 0)) (zaaE (hh 0)) (by decide),rfl,nxt s (h 0),⟨rfl, .refl _,rfl⟩,rfl, .refl _, .rfl⟩
end
end Go.Proofs.YtpofhijgccocpaaGreatDoor
end
section
namespace Go.Proofs.YtpofhijgccocpaaGreatDoor
open Go.AS Go.TP
noncomputable section
def spE (xs:List Int)(at_ d at':Int)(a:ByteArray):Sp:=⟨Unit,fun _=>True,fun _=>[mArg,i0 d],fun _=>zajS xs at_,fun _=>mOut xs at' (s0 a)⟩
def spNm (xs:List Int)(at_ at':Int)(a:ByteArray):Sp:=⟨Unit,fun _=>True,fun _=>[mArg],fun _=>zajS xs at_,fun _=>mOut xs at' (s0 a)⟩
def gEx (X:WX)(os:Orc)(xs:List Int)(at_ d at':Int)(r:ByteArray):Prop:=runF (X.ask [zabT]) 12 zabT (fn zabT) (code zabT) os 0 [] [mArg,i0 d] (zajS xs at_) (mOut xs at' (s0 r))
def X1a (xs:List Int)(at_ d at1 at2 k:Int)(a:ByteArray):WX:=(XH.add zaaP (Sp.con [zabu xs at_ 26 at1 k])).add zabT (Sp.con [spE xs at1 (d+1) at2 a])
def X1b (xs:List Int)(at_ d at1 at2 at3 k n v:Int)(a:ByteArray):WX:=(XH.add zaaP (Sp.con [zabu xs at_ 26 at1 k,zabu xs at2 n at3 v])).add zabT (Sp.con [spE xs at1 (d+1) at2 a])
def X1c (xs:List Int)(at_ d at1 at2 at3 at4 k v w:Int)(a:ByteArray):WX:=(XH.add zaaP (Sp.con [zabu xs at_ 26 at1 k,zabu xs at2 3 at3 v,zabu xs at3 4 at4 w])).add zabT (Sp.con [spE xs at1 (d+1) at2 a])
def X2a (xs:List Int)(at_ d at1 at2 at3 k:Int)(a b:ByteArray):WX:=(XH.add zaaP (Sp.con [zabu xs at_ 26 at1 k])).add zabT (Sp.con [spE xs at1 (d+1) at2 a,spE xs at2 (d+1) at3 b])
def X2b (xs:List Int)(at_ d at1 at2 at3 at4 k n v:Int)(a b:ByteArray):WX:=(XH.add zaaP (Sp.con [zabu xs at_ 26 at1 k,zabu xs at2 n at3 v])).add zabT (Sp.con [spE xs at1 (d+1) at2 a,spE xs at3 (d+1) at4 b])
def XLa (xs:List Int)(at_ at1 at2 k v:Int):WX:=XH.add zaaP (Sp.con [zabu xs at_ 26 at1 k,zabu xs at1 3 at2 v])
def XLn (xs:List Int)(at_ at1 at2 k:Int)(s:ByteArray):WX:=(XH.add zaaP (Sp.con [zabu xs at_ 26 at1 k])).add zaa7 (Sp.con [spNm xs at1 at2 s])
def gLaA (os:Orc)(xs:List Int)(at_ d at1 at2 k v:Int)(r:ByteArray):Prop:=gEx (XLa xs at_ at1 at2 k v) os xs at_ d at2 r
def gLnA (os:Orc)(xs:List Int)(at_ d at1 at2 k:Int)(s:ByteArray):Prop:=gEx (XLn xs at_ at1 at2 k s) os xs at_ d at2 s
def gLaB (os:Orc)(xs:List Int)(at_ d at1 at2 k v:Int)(r:ByteArray):Prop:=gEx (XLa xs at_ at1 at2 k v) os xs at_ d at2 r
def gLnB (os:Orc)(xs:List Int)(at_ d at1 at2 k:Int)(s:ByteArray):Prop:=gEx (XLn xs at_ at1 at2 k s) os xs at_ d at2 s
def gLaC (os:Orc)(xs:List Int)(at_ d at1 at2 k v:Int)(r:ByteArray):Prop:=gEx (XLa xs at_ at1 at2 k v) os xs at_ d at2 r
def gLnC (os:Orc)(xs:List Int)(at_ d at1 at2 k:Int)(s:ByteArray):Prop:=gEx (XLn xs at_ at1 at2 k s) os xs at_ d at2 s
def gE0 (os:Orc)(xs:List Int)(at_ d at1 at2 at3 at4 v:Int)(a b r:ByteArray):Prop:=gEx (X2b xs at_ d at1 at2 at3 at4 0 3 v a b) os xs at_ d at4 r
def gE1 (os:Orc)(xs:List Int)(at_ d at1 at2 at3 at4 v:Int)(a b r:ByteArray):Prop:=gEx (X2b xs at_ d at1 at2 at3 at4 1 3 v a b) os xs at_ d at4 r
def gE2 (os:Orc)(xs:List Int)(at_ d at1 at2 at3 at4 v:Int)(a b r:ByteArray):Prop:=gEx (X2b xs at_ d at1 at2 at3 at4 2 2 v a b) os xs at_ d at4 r
def gE3 (os:Orc)(xs:List Int)(at_ d at1 at2 at3 at4 v:Int)(a b r:ByteArray):Prop:=gEx (X2b xs at_ d at1 at2 at3 at4 3 2 v a b) os xs at_ d at4 r
def gE4 (os:Orc)(xs:List Int)(at_ d at1 at2 at3 v:Int)(a r:ByteArray):Prop:=gEx (X1b xs at_ d at1 at2 at3 4 2 v a) os xs at_ d at3 r
def gE5 (os:Orc)(xs:List Int)(at_ d at1 at2:Int)(a r:ByteArray):Prop:=gEx (X1a xs at_ d at1 at2 5 a) os xs at_ d at2 r
def gE6 (os:Orc)(xs:List Int)(at_ d at1 at2:Int)(a r:ByteArray):Prop:=gEx (X1a xs at_ d at1 at2 6 a) os xs at_ d at2 r
def gE7 (os:Orc)(xs:List Int)(at_ d at1 at2:Int)(a r:ByteArray):Prop:=gEx (X1a xs at_ d at1 at2 7 a) os xs at_ d at2 r
def gE8 (os:Orc)(xs:List Int)(at_ d at1 at2:Int)(a r:ByteArray):Prop:=gEx (X1a xs at_ d at1 at2 8 a) os xs at_ d at2 r
def gE9 (os:Orc)(xs:List Int)(at_ d at1 at2 at3:Int)(a b r:ByteArray):Prop:=gEx (X2a xs at_ d at1 at2 at3 9 a b) os xs at_ d at3 r
def gE10 (os:Orc)(xs:List Int)(at_ d at1 at2 at3:Int)(a b r:ByteArray):Prop:=gEx (X2a xs at_ d at1 at2 at3 10 a b) os xs at_ d at3 r
def gE11 (os:Orc)(xs:List Int)(at_ d at1 at2:Int)(a r:ByteArray):Prop:=gEx (X1a xs at_ d at1 at2 11 a) os xs at_ d at2 r
def gE12 (os:Orc)(xs:List Int)(at_ d at1 at2:Int)(a r:ByteArray):Prop:=gEx (X1a xs at_ d at1 at2 12 a) os xs at_ d at2 r
def gE13 (os:Orc)(xs:List Int)(at_ d at1 at2:Int)(a r:ByteArray):Prop:=gEx (X1a xs at_ d at1 at2 13 a) os xs at_ d at2 r
def gE14 (os:Orc)(xs:List Int)(at_ d at1 at2:Int)(a r:ByteArray):Prop:=gEx (X1a xs at_ d at1 at2 14 a) os xs at_ d at2 r
def gE15 (os:Orc)(xs:List Int)(at_ d at1 at2:Int)(a r:ByteArray):Prop:=gEx (X1a xs at_ d at1 at2 15 a) os xs at_ d at2 r
def gE16 (os:Orc)(xs:List Int)(at_ d at1 at2:Int)(a r:ByteArray):Prop:=gEx (X1a xs at_ d at1 at2 16 a) os xs at_ d at2 r
def gE17 (os:Orc)(xs:List Int)(at_ d at1 at2:Int)(a r:ByteArray):Prop:=gEx (X1a xs at_ d at1 at2 17 a) os xs at_ d at2 r
def gE18 (os:Orc)(xs:List Int)(at_ d at1 at2 at3 at4 v w:Int)(a r:ByteArray):Prop:=gEx (X1c xs at_ d at1 at2 at3 at4 18 v w a) os xs at_ d at4 r
def gE19 (os:Orc)(xs:List Int)(at_ d at1 at2:Int)(a r:ByteArray):Prop:=gEx (X1a xs at_ d at1 at2 19 a) os xs at_ d at2 r
end
end Go.Proofs.YtpofhijgccocpaaGreatDoor
end
section
namespace Go.Proofs.YtpofhijgccocpaaGreatDoor
open Go Go.AS Go.TP
noncomputable abbrev zadZ (xs:List Int) (at_:Int):=(True/\Wks [AV.ptr 1048577 [0,0] 0 0,i0 26] [AV.ptr 1048577 [0,0] 0 0,i0 26]/\hpL [eR 1048577 [0,0] 2 [AV.agg [AV.lst false 1 (List.map i0 xs),i0 at_]]]=hpL [eR 1048577 [0,0] 2 [AV.agg [AV.lst false 1 (List.map i0 xs),i0 at_]]])
noncomputable abbrev zago (d:Int) (xs:List Int) (at1:Int):=(True/\Wks [AV.ptr 1048577 [0,0] 0 0,i0 (d+1)] [AV.ptr 1048577 [0,0] 0 0,i0 (d+1)]/\hpL [eR 1048577 [0,0] 2 [AV.agg [AV.lst false 1 (List.map i0 xs),i0 at1]]]=hpL [eR 1048577 [0,0] 2 [AV.agg [AV.lst false 1 (List.map i0 xs),i0 at1]]])
noncomputable abbrev zabW (xs:List Int) (at2:Int):=[eR 1048577 [0,0] 2 [AV.agg [AV.lst false 1 (List.map i0 xs),i0 at2]]]
noncomputable abbrev zaqN (xs:List Int) (at1:Int):=[eR 1048577 [0,0] 2 [AV.agg [AV.lst false 1 (List.map i0 xs),i0 at1]]]
noncomputable abbrev zamv (xs:List Int) (at3:Int):=[eR 1048577 [0,0] 2 [AV.agg [AV.lst false 1 (List.map i0 xs),i0 at3]]]
noncomputable abbrev zaqM:=[(109:UInt8),(97:UInt8),(115:UInt8),(116:UInt8),(101:UInt8),(114:UInt8),(40:UInt8),(41:UInt8)]
def zazd:Orc:=Orc.alt 0 (HT (Orc.t (Orc.t (HF (HF (HF (HF (HF (Orc.f (Orc.t (Orc.alt 1 Orc.z)))))))))))
theorem zauH (xs:List Int)(at_ d:Int)(at1 at2:Int)(k v:Int)(r:ByteArray):gLaA zazd xs at_ d at1 at2 k v r=(let z1:=[(110:UInt8),(111:UInt8),(110:UInt8),(101:UInt8),(40:UInt8),(41:UInt8)]; let z2:=[(97:UInt8),(108:UInt8),(108:UInt8),(40:UInt8),(41:UInt8)]; ∃ (_:Unit),(zadZ xs at_)/\decide (d>3)=true/\Yt4 (Yt (Yt (inR IntKind.i64 ((20:Int)+Int.tmod k (6:Int))=true/\decide ((20:Int)+Int.tmod k (6:Int)<(20:Int))=false/\((20:Int)+Int.tmod k (6:Int)==(0:Int))=false/\((20:Int)+Int.tmod k (6:Int)==(1:Int))=false/\((20:Int)+Int.tmod k (6:Int)==(2:Int))=false/\((20:Int)+Int.tmod k (6:Int)==(3:Int))=false/\((20:Int)+Int.tmod k (6:Int)==(4:Int))=false/\((20:Int)+Int.tmod k (6:Int)==(5:Int))=false/\((20:Int)+Int.tmod k (6:Int)==(6:Int))=false/\((20:Int)+Int.tmod k (6:Int)==(7:Int))=false/\((20:Int)+Int.tmod k (6:Int)==(8:Int))=false/\((20:Int)+Int.tmod k (6:Int)==(9:Int))=false/\((20:Int)+Int.tmod k (6:Int)==(10:Int))=false/\((20:Int)+Int.tmod k (6:Int)==(11:Int))=false/\((20:Int)+Int.tmod k (6:Int)==(12:Int))=false/\((20:Int)+Int.tmod k (6:Int)==(13:Int))=false/\((20:Int)+Int.tmod k (6:Int)==(14:Int))=false/\((20:Int)+Int.tmod k (6:Int)==(15:Int))=false/\((20:Int)+Int.tmod k (6:Int)==(16:Int))=false/\((20:Int)+Int.tmod k (6:Int)==(17:Int))=false/\((20:Int)+Int.tmod k (6:Int)==(18:Int))=false/\((20:Int)+Int.tmod k (6:Int)==(19:Int))=false/\((20:Int)+Int.tmod k (6:Int)==(20:Int))=true/\U1 [AV.ptr 1048577 [0,0] 0 0,i0 3] (zaqN xs at1) ((decide ((0:Int)<=v/\v<3)&&(true&&List.all [Value.string { data:={ toList:=z2 } },Value.string { data:={ toList:=(zaqM) } },Value.string { data:={ toList:=z1 } }] zaiP))=true/\Wk (s0 (List.getD (zaaQ [Value.string { data:={ toList:=z2 } },Value.string { data:={ toList:=(zaqM) } },Value.string { data:={ toList:=z1 } }]) (Int.toNat v) ByteArray.empty)) (s0 r)/\SameH (hpL (zabW xs at2)) (hpL (zabW xs at2))))))):=by kernel_rfl
def zaz:Orc:=HT (Orc.t (Orc.t (HF (HF (HF (HF (HF (Orc.f (Orc.f Orc.z)))))))))
theorem zauz (xs:List Int)(at_ d:Int)(at1 at2 k:Int)(s:ByteArray):gLnA zaz xs at_ d at1 at2 k s=(∃ (_:Unit),(zadZ xs at_)/\decide (d>3)=true/\Yt4 (Yt (Yt (inR IntKind.i64 ((20:Int)+Int.tmod k (6:Int))=true/\decide ((20:Int)+Int.tmod k (6:Int)<(20:Int))=false/\((20:Int)+Int.tmod k (6:Int)==(0:Int))=false/\((20:Int)+Int.tmod k (6:Int)==(1:Int))=false/\((20:Int)+Int.tmod k (6:Int)==(2:Int))=false/\((20:Int)+Int.tmod k (6:Int)==(3:Int))=false/\((20:Int)+Int.tmod k (6:Int)==(4:Int))=false/\((20:Int)+Int.tmod k (6:Int)==(5:Int))=false/\((20:Int)+Int.tmod k (6:Int)==(6:Int))=false/\((20:Int)+Int.tmod k (6:Int)==(7:Int))=false/\((20:Int)+Int.tmod k (6:Int)==(8:Int))=false/\((20:Int)+Int.tmod k (6:Int)==(9:Int))=false/\((20:Int)+Int.tmod k (6:Int)==(10:Int))=false/\((20:Int)+Int.tmod k (6:Int)==(11:Int))=false/\((20:Int)+Int.tmod k (6:Int)==(12:Int))=false/\((20:Int)+Int.tmod k (6:Int)==(13:Int))=false/\((20:Int)+Int.tmod k (6:Int)==(14:Int))=false/\((20:Int)+Int.tmod k (6:Int)==(15:Int))=false/\((20:Int)+Int.tmod k (6:Int)==(16:Int))=false/\((20:Int)+Int.tmod k (6:Int)==(17:Int))=false/\((20:Int)+Int.tmod k (6:Int)==(18:Int))=false/\((20:Int)+Int.tmod k (6:Int)==(19:Int))=false/\((20:Int)+Int.tmod k (6:Int)==(20:Int))=false/\U1 [AV.ptr 1048577 [0,0] 0 0] (zaqN xs at1) (Wk (s0 s) (s0 s)/\SameH (hpL (zabW xs at2)) (hpL (zabW xs at2))))))):=by kernel_rfl
def zazc:Orc:=Orc.alt 0 (HF (Orc.f (Orc.t (HF (HF (HF (HF (HF (Orc.f (Orc.t (Orc.alt 1 Orc.z)))))))))))
theorem zauF (xs:List Int)(at_ d:Int)(at1 at2:Int)(k v:Int)(r:ByteArray):gLaB zazc xs at_ d at1 at2 k v r=(let z1:=[(110:UInt8),(111:UInt8),(110:UInt8),(101:UInt8),(40:UInt8),(41:UInt8)]; let z2:=[(97:UInt8),(108:UInt8),(108:UInt8),(40:UInt8),(41:UInt8)]; ∃ (_:Unit),(zadZ xs at_)/\decide (d>3)=false/\Nf4 (decide (at1>20)=true/\Yt (inR IntKind.i64 ((20:Int)+Int.tmod k (6:Int))=true/\decide ((20:Int)+Int.tmod k (6:Int)<(20:Int))=false/\((20:Int)+Int.tmod k (6:Int)==(0:Int))=false/\((20:Int)+Int.tmod k (6:Int)==(1:Int))=false/\((20:Int)+Int.tmod k (6:Int)==(2:Int))=false/\((20:Int)+Int.tmod k (6:Int)==(3:Int))=false/\((20:Int)+Int.tmod k (6:Int)==(4:Int))=false/\((20:Int)+Int.tmod k (6:Int)==(5:Int))=false/\((20:Int)+Int.tmod k (6:Int)==(6:Int))=false/\((20:Int)+Int.tmod k (6:Int)==(7:Int))=false/\((20:Int)+Int.tmod k (6:Int)==(8:Int))=false/\((20:Int)+Int.tmod k (6:Int)==(9:Int))=false/\((20:Int)+Int.tmod k (6:Int)==(10:Int))=false/\((20:Int)+Int.tmod k (6:Int)==(11:Int))=false/\((20:Int)+Int.tmod k (6:Int)==(12:Int))=false/\((20:Int)+Int.tmod k (6:Int)==(13:Int))=false/\((20:Int)+Int.tmod k (6:Int)==(14:Int))=false/\((20:Int)+Int.tmod k (6:Int)==(15:Int))=false/\((20:Int)+Int.tmod k (6:Int)==(16:Int))=false/\((20:Int)+Int.tmod k (6:Int)==(17:Int))=false/\((20:Int)+Int.tmod k (6:Int)==(18:Int))=false/\((20:Int)+Int.tmod k (6:Int)==(19:Int))=false/\((20:Int)+Int.tmod k (6:Int)==(20:Int))=true/\U1 [AV.ptr 1048577 [0,0] 0 0,i0 3] (zaqN xs at1) ((decide ((0:Int)<=v/\v<3)&&(true&&List.all [Value.string { data:={ toList:=z2 } },Value.string { data:={ toList:=(zaqM) } },Value.string { data:={ toList:=z1 } }] zaiP))=true/\Wk (s0 (List.getD (zaaQ [Value.string { data:={ toList:=z2 } },Value.string { data:={ toList:=(zaqM) } },Value.string { data:={ toList:=z1 } }]) (Int.toNat v) ByteArray.empty)) (s0 r)/\SameH (hpL (zabW xs at2)) (hpL (zabW xs at2)))))):=by kernel_rfl
def zay9:Orc:=HF (Orc.f (Orc.t (HF (HF (HF (HF (HF (Orc.f (Orc.f Orc.z)))))))))
theorem zaux (xs:List Int)(at_ d:Int)(at1 at2 k:Int)(s:ByteArray):gLnB zay9 xs at_ d at1 at2 k s=(∃ (_:Unit),(zadZ xs at_)/\decide (d>3)=false/\Nf4 (decide (at1>20)=true/\Yt (inR IntKind.i64 ((20:Int)+Int.tmod k (6:Int))=true/\decide ((20:Int)+Int.tmod k (6:Int)<(20:Int))=false/\((20:Int)+Int.tmod k (6:Int)==(0:Int))=false/\((20:Int)+Int.tmod k (6:Int)==(1:Int))=false/\((20:Int)+Int.tmod k (6:Int)==(2:Int))=false/\((20:Int)+Int.tmod k (6:Int)==(3:Int))=false/\((20:Int)+Int.tmod k (6:Int)==(4:Int))=false/\((20:Int)+Int.tmod k (6:Int)==(5:Int))=false/\((20:Int)+Int.tmod k (6:Int)==(6:Int))=false/\((20:Int)+Int.tmod k (6:Int)==(7:Int))=false/\((20:Int)+Int.tmod k (6:Int)==(8:Int))=false/\((20:Int)+Int.tmod k (6:Int)==(9:Int))=false/\((20:Int)+Int.tmod k (6:Int)==(10:Int))=false/\((20:Int)+Int.tmod k (6:Int)==(11:Int))=false/\((20:Int)+Int.tmod k (6:Int)==(12:Int))=false/\((20:Int)+Int.tmod k (6:Int)==(13:Int))=false/\((20:Int)+Int.tmod k (6:Int)==(14:Int))=false/\((20:Int)+Int.tmod k (6:Int)==(15:Int))=false/\((20:Int)+Int.tmod k (6:Int)==(16:Int))=false/\((20:Int)+Int.tmod k (6:Int)==(17:Int))=false/\((20:Int)+Int.tmod k (6:Int)==(18:Int))=false/\((20:Int)+Int.tmod k (6:Int)==(19:Int))=false/\((20:Int)+Int.tmod k (6:Int)==(20:Int))=false/\U1 [AV.ptr 1048577 [0,0] 0 0] (zaqN xs at1) (Wk (s0 s) (s0 s)/\SameH (hpL (zabW xs at2)) (hpL (zabW xs at2)))))):=by kernel_rfl
def zazb:Orc:=Orc.alt 0 (HF (HF (HF (HF (HF (HF (Orc.f (Orc.f (Orc.f (Orc.t (Orc.alt 1 Orc.z)))))))))))
theorem zauD (xs:List Int)(at_ d:Int)(at1 at2:Int)(k v:Int)(r:ByteArray):gLaC zazb xs at_ d at1 at2 k v r=(let z1:=[(110:UInt8),(111:UInt8),(110:UInt8),(101:UInt8),(40:UInt8),(41:UInt8)]; let z2:=[(97:UInt8),(108:UInt8),(108:UInt8),(40:UInt8),(41:UInt8)]; ∃ (_:Unit),(zadZ xs at_)/\decide (d>3)=false/\Nf4 (decide (at1>20)=false/\decide (k<20)=false/\(k==0)=false/\(k==1)=false/\(k==2)=false/\(k==3)=false/\(k==4)=false/\(k==5)=false/\(k==6)=false/\(k==7)=false/\(k==8)=false/\(k==9)=false/\(k==10)=false/\(k==11)=false/\(k==12)=false/\(k==13)=false/\(k==14)=false/\(k==15)=false/\(k==16)=false/\(k==17)=false/\(k==18)=false/\(k==19)=false/\(k==20)=true/\U1 [AV.ptr 1048577 [0,0] 0 0,i0 3] (zaqN xs at1) ((decide ((0:Int)<=v/\v<3)&&(true&&List.all [Value.string { data:={ toList:=z2 } },Value.string { data:={ toList:=(zaqM) } },Value.string { data:={ toList:=z1 } }] zaiP))=true/\Wk (s0 (List.getD (zaaQ [Value.string { data:={ toList:=z2 } },Value.string { data:={ toList:=(zaqM) } },Value.string { data:={ toList:=z1 } }]) (Int.toNat v) ByteArray.empty)) (s0 r)/\SameH (hpL (zabW xs at2)) (hpL (zabW xs at2))))):=by kernel_rfl
def zay8:Orc:=HF (HF (HF (HF (HF (HF (Orc.f (Orc.f (Orc.f (Orc.f Orc.z)))))))))
theorem zauv (xs:List Int)(at_ d:Int)(at1 at2 k:Int)(s:ByteArray):gLnC zay8 xs at_ d at1 at2 k s=(∃ (_:Unit),(zadZ xs at_)/\decide (d>3)=false/\Nf4 (decide (at1>20)=false/\decide (k<20)=false/\(k==0)=false/\(k==1)=false/\(k==2)=false/\(k==3)=false/\(k==4)=false/\(k==5)=false/\(k==6)=false/\(k==7)=false/\(k==8)=false/\(k==9)=false/\(k==10)=false/\(k==11)=false/\(k==12)=false/\(k==13)=false/\(k==14)=false/\(k==15)=false/\(k==16)=false/\(k==17)=false/\(k==18)=false/\(k==19)=false/\(k==20)=false/\U1 [AV.ptr 1048577 [0,0] 0 0] (zaqN xs at1) (Wk (s0 s) (s0 s)/\SameH (hpL (zabW xs at2)) (hpL (zabW xs at2))))):=by kernel_rfl
def ogE0:Orc:=Orc.alt 0 (HF (Orc.f (Orc.f (Orc.t (Orc.alt 0 (Orc.t (Orc.alt 1 (Orc.alt 1 Orc.z))))))))
theorem zaxq (xs:List Int)(at_ d:Int)(at1 at2:Int)(at3 at4 v:Int)(a b r:ByteArray):gE0 ogE0 xs at_ d at1 at2 at3 at4 v a b r=(let z1:=[(32:UInt8),(111:UInt8),(114:UInt8),(32:UInt8)]; let z2:=[(32:UInt8),(124:UInt8),(32:UInt8)]; let z3:=(hpL [eR 1048577 [0,0] 2 [AV.agg [AV.lst false 1 (List.map i0 xs),i0 at4]]]); let z4:=AV.ptr 1048577 [0,0] 0 0; let z5:=[(43:UInt8)]; ∃ (_:Unit),(zadZ xs at_)/\decide (d>3)=false/\Nf4 (decide (at1>20)=false/\Yt (inR IntKind.i64 (d+1)=true/\∃ (_:Unit),(zago d xs at1)/\Yt (U1 [z4,i0 3] (zabW xs at2) ((decide ((0:Int)<=v/\v<3)&&(true&&List.all [Value.string { data:={ toList:=z1 } },Value.string { data:={ toList:=z5 } },Value.string { data:={ toList:=z2 } }] zaiP))=true/\decide (ByteArray.size a+ByteArray.size (List.getD (zaaQ [Value.string { data:={ toList:=z1 } },Value.string { data:={ toList:=z5 } },Value.string { data:={ toList:=z2 } }]) (Int.toNat v) ByteArray.empty)<=9223372036854775807)=true/\inR IntKind.i64 (d+1)=true/\U1 [z4,i0 (d+1)] (zamv xs at3) (decide (ByteArray.size (a++List.getD (zaaQ [Value.string { data:={ toList:=z1 } },Value.string { data:={ toList:=z5 } },Value.string { data:={ toList:=z2 } }]) (Int.toNat v) ByteArray.empty)+ByteArray.size b<=9223372036854775807)=true/\Wk (s0 (a++List.getD (zaaQ [Value.string { data:={ toList:=z1 } },Value.string { data:={ toList:=z5 } },Value.string { data:={ toList:=z2 } }]) (Int.toNat v) ByteArray.empty++b)) (s0 r)/\SameH z3 z3)))))):=by kernel_rfl
def ogE1:Orc:=Orc.alt 0 (HF (Orc.f (Orc.f (Orc.t (Orc.alt 0 (Orc.f (Orc.t (Orc.alt 1 (Orc.alt 1 Orc.z)))))))))
theorem zaxo (xs:List Int)(at_ d:Int)(at1 at2:Int)(at3 at4 v:Int)(a b r:ByteArray):gE1 ogE1 xs at_ d at1 at2 at3 at4 v a b r=(let z1:=[(32:UInt8),(109:UInt8),(105:UInt8),(110:UInt8),(117:UInt8),(115:UInt8),(32:UInt8)]; let z2:=[(32:UInt8),(45:UInt8),(32:UInt8)]; let z3:=(hpL [eR 1048577 [0,0] 2 [AV.agg [AV.lst false 1 (List.map i0 xs),i0 at4]]]); let z4:=AV.ptr 1048577 [0,0] 0 0; let z5:=[(45:UInt8)]; ∃ (_:Unit),(zadZ xs at_)/\decide (d>3)=false/\Nf4 (decide (at1>20)=false/\Yt (inR IntKind.i64 (d+1)=true/\∃ (_:Unit),(zago d xs at1)/\Nf (Yt (U1 [z4,i0 3] (zabW xs at2) ((decide ((0:Int)<=v/\v<3)&&(true&&List.all [Value.string { data:={ toList:=z2 } },Value.string { data:={ toList:=z5 } },Value.string { data:={ toList:=z1 } }] zaiP))=true/\decide (ByteArray.size a+ByteArray.size (List.getD (zaaQ [Value.string { data:={ toList:=z2 } },Value.string { data:={ toList:=z5 } },Value.string { data:={ toList:=z1 } }]) (Int.toNat v) ByteArray.empty)<=9223372036854775807)=true/\inR IntKind.i64 (d+1)=true/\U1 [z4,i0 (d+1)] (zamv xs at3) (decide (ByteArray.size (a++List.getD (zaaQ [Value.string { data:={ toList:=z2 } },Value.string { data:={ toList:=z5 } },Value.string { data:={ toList:=z1 } }]) (Int.toNat v) ByteArray.empty)+ByteArray.size b<=9223372036854775807)=true/\Wk (s0 (a++List.getD (zaaQ [Value.string { data:={ toList:=z2 } },Value.string { data:={ toList:=z5 } },Value.string { data:={ toList:=z1 } }]) (Int.toNat v) ByteArray.empty++b)) (s0 r)/\SameH z3 z3))))))):=by kernel_rfl
def ogE2:Orc:=Orc.alt 0 (HF (Orc.f (Orc.f (Orc.t (Orc.alt 0 (Orc.f (Orc.f (Orc.t (Orc.t (Orc.alt 1 (Orc.alt 1 Orc.z)))))))))))
theorem zaxm (xs:List Int)(at_ d:Int)(at1 at2:Int)(at3 at4 v:Int)(a b r:ByteArray):gE2 ogE2 xs at_ d at1 at2 at3 at4 v a b r=(let z1:=[(32:UInt8),(97:UInt8),(110:UInt8),(100:UInt8),(32:UInt8)]; let z2:=AV.lst false 1 (List.map i0 xs); let z3:=AV.ptr 1048577 [0,0] 0 0; let z4:=[(40:UInt8)]; let z5:=[(38:UInt8)]; let z6:=[(41:UInt8)]; let z7:=(hpL [eR 1048577 [0,0] 2 [AV.agg [z2,i0 at4]]]); let z8:=[eR 1048577 [0,0] 2 [AV.agg [z2,i0 at_]]]; let z9:=[eR 1048577 [0,0] 2 [AV.agg [z2,i0 at1]]]; let z10:=[eR 1048577 [0,0] 2 [AV.agg [z2,i0 at2]]]; let z11:=[eR 1048577 [0,0] 2 [AV.agg [z2,i0 at3]]]; let z12:=[z3,i0 (d+1)]; U1 [z3,i0 26] z8 (decide (d>3)=false/\Nf4 (decide (at1>20)=false/\Yt (inR IntKind.i64 (d+1)=true/\U1 z12 z9 (Nf (Nf (Yt (Yt (decide (1+ByteArray.size a<=9223372036854775807)=true/\decide (ByteArray.size ({ data:={ toList:=z4 } }++a)+1<=9223372036854775807)=true/\U1 [z3,i0 2] z10 ((decide ((0:Int)<=v/\v<2)&&(true&&List.all [Value.string { data:={ toList:=z1 } },Value.string { data:={ toList:=z5 } }] zaiP))=true/\decide (ByteArray.size ({ data:={ toList:=z4 } }++a++{ data:={ toList:=z6 } })+ByteArray.size (List.getD (zaaQ [Value.string { data:={ toList:=z1 } },Value.string { data:={ toList:=z5 } }]) (Int.toNat v) ByteArray.empty)<=9223372036854775807)=true/\decide (ByteArray.size ({ data:={ toList:=z4 } }++a++{ data:={ toList:=z6 } }++List.getD (zaaQ [Value.string { data:={ toList:=z1 } },Value.string { data:={ toList:=z5 } }]) (Int.toNat v) ByteArray.empty)+1<=9223372036854775807)=true/\inR IntKind.i64 (d+1)=true/\U1 z12 z11 (decide (ByteArray.size ({ data:={ toList:=z4 } }++a++{ data:={ toList:=z6 } }++List.getD (zaaQ [Value.string { data:={ toList:=z1 } },Value.string { data:={ toList:=z5 } }]) (Int.toNat v) ByteArray.empty++{ data:={ toList:=z4 } })+ByteArray.size b<=9223372036854775807)=true/\decide (ByteArray.size ({ data:={ toList:=z4 } }++a++{ data:={ toList:=z6 } }++List.getD (zaaQ [Value.string { data:={ toList:=z1 } },Value.string { data:={ toList:=z5 } }]) (Int.toNat v) ByteArray.empty++{ data:={ toList:=z4 } }++b)+1<=9223372036854775807)=true/\Wk (s0 ({ data:={ toList:=z4 } }++a++{ data:={ toList:=z6 } }++List.getD (zaaQ [Value.string { data:={ toList:=z1 } },Value.string { data:={ toList:=z5 } }]) (Int.toNat v) ByteArray.empty++{ data:={ toList:=z4 } }++b++{ data:={ toList:=z6 } })) (s0 r)/\SameH z7 z7))))))))))):=by kernel_rfl
def ogE3:Orc:=Orc.alt 0 (HF (Orc.f (Orc.f (Orc.t (Orc.alt 0 (Orc.f (Orc.f (Orc.f (Orc.t (Orc.alt 1 (Orc.alt 1 Orc.z)))))))))))
theorem zaxk (xs:List Int)(at_ d:Int)(at1 at2:Int)(at3 at4 v:Int)(a b r:ByteArray):gE3 ogE3 xs at_ d at1 at2 at3 at4 v a b r=(let z1:=[(32:UInt8),(97:UInt8),(110:UInt8),(100:UInt8),(32:UInt8)]; let z2:=AV.lst false 1 (List.map i0 xs); let z3:=AV.ptr 1048577 [0,0] 0 0; let z4:=[(40:UInt8)]; let z5:=[(38:UInt8)]; let z6:=[(41:UInt8)]; let z7:=(hpL [eR 1048577 [0,0] 2 [AV.agg [z2,i0 at4]]]); let z8:=[eR 1048577 [0,0] 2 [AV.agg [z2,i0 at_]]]; let z9:=[eR 1048577 [0,0] 2 [AV.agg [z2,i0 at1]]]; let z10:=[eR 1048577 [0,0] 2 [AV.agg [z2,i0 at2]]]; let z11:=[eR 1048577 [0,0] 2 [AV.agg [z2,i0 at3]]]; let z12:=[z3,i0 (d+1)]; U1 [z3,i0 26] z8 (decide (d>3)=false/\Nf4 (decide (at1>20)=false/\Yt (inR IntKind.i64 (d+1)=true/\U1 z12 z9 (Nf (Nf (Nf (Yt (decide (1+ByteArray.size a<=9223372036854775807)=true/\decide (ByteArray.size ({ data:={ toList:=z4 } }++a)+1<=9223372036854775807)=true/\U1 [z3,i0 2] z10 ((decide ((0:Int)<=v/\v<2)&&(true&&List.all [Value.string { data:={ toList:=z1 } },Value.string { data:={ toList:=z5 } }] zaiP))=true/\decide (ByteArray.size ({ data:={ toList:=z4 } }++a++{ data:={ toList:=z6 } })+ByteArray.size (List.getD (zaaQ [Value.string { data:={ toList:=z1 } },Value.string { data:={ toList:=z5 } }]) (Int.toNat v) ByteArray.empty)<=9223372036854775807)=true/\decide (ByteArray.size ({ data:={ toList:=z4 } }++a++{ data:={ toList:=z6 } }++List.getD (zaaQ [Value.string { data:={ toList:=z1 } },Value.string { data:={ toList:=z5 } }]) (Int.toNat v) ByteArray.empty)+1<=9223372036854775807)=true/\inR IntKind.i64 (d+1)=true/\U1 z12 z11 (decide (ByteArray.size ({ data:={ toList:=z4 } }++a++{ data:={ toList:=z6 } }++List.getD (zaaQ [Value.string { data:={ toList:=z1 } },Value.string { data:={ toList:=z5 } }]) (Int.toNat v) ByteArray.empty++{ data:={ toList:=z4 } })+ByteArray.size b<=9223372036854775807)=true/\decide (ByteArray.size ({ data:={ toList:=z4 } }++a++{ data:={ toList:=z6 } }++List.getD (zaaQ [Value.string { data:={ toList:=z1 } },Value.string { data:={ toList:=z5 } }]) (Int.toNat v) ByteArray.empty++{ data:={ toList:=z4 } }++b)+1<=9223372036854775807)=true/\Wk (s0 ({ data:={ toList:=z4 } }++a++{ data:={ toList:=z6 } }++List.getD (zaaQ [Value.string { data:={ toList:=z1 } },Value.string { data:={ toList:=z5 } }]) (Int.toNat v) ByteArray.empty++{ data:={ toList:=z4 } }++b++{ data:={ toList:=z6 } })) (s0 r)/\SameH z7 z7))))))))))):=by kernel_rfl
def ogE4:Orc:=Orc.alt 0 (HF (Orc.f (Orc.f (Orc.t (HF (Orc.t (Orc.alt 1 Orc.z)))))))
theorem zaxi (xs:List Int)(at_ d:Int)(at1 at2:Int)(at3 v:Int)(a r:ByteArray):gE4 ogE4 xs at_ d at1 at2 at3 v a r=(let z1:=[(110:UInt8),(111:UInt8),(116:UInt8),(32:UInt8)]; let z2:=[(33:UInt8)]; ∃ (_:Unit),(zadZ xs at_)/\decide (d>3)=false/\Nf4 (decide (at1>20)=false/\Yt (inR IntKind.i64 (d+1)=true/\∃ (_:Unit),(zago d xs at1)/\Nf4 (Yt (U1 [AV.ptr 1048577 [0,0] 0 0,i0 2] (zabW xs at2) ((decide ((0:Int)<=v/\v<2)&&(true&&List.all [Value.string { data:={ toList:=z1 } },Value.string { data:={ toList:=z2 } }] zaiP))=true/\decide (ByteArray.size (List.getD (zaaQ [Value.string { data:={ toList:=z1 } },Value.string { data:={ toList:=z2 } }]) (Int.toNat v) ByteArray.empty)+1<=9223372036854775807)=true/\decide (ByteArray.size (List.getD (zaaQ [Value.string { data:={ toList:=z1 } },Value.string { data:={ toList:=z2 } }]) (Int.toNat v) ByteArray.empty++⟨⟨[(40:UInt8)]⟩⟩)+ByteArray.size a<=9223372036854775807)=true/\decide (ByteArray.size (List.getD (zaaQ [Value.string { data:={ toList:=z1 } },Value.string { data:={ toList:=z2 } }]) (Int.toNat v) ByteArray.empty++⟨⟨[(40:UInt8)]⟩⟩++a)+1<=9223372036854775807)=true/\Wk (s0 (List.getD (zaaQ [Value.string { data:={ toList:=z1 } },Value.string { data:={ toList:=z2 } }]) (Int.toNat v) ByteArray.empty++⟨⟨[(40:UInt8)]⟩⟩++a++⟨⟨[(41:UInt8)]⟩⟩)) (s0 r)/\SameH (hpL (zamv xs at3)) (hpL (zamv xs at3)))))))):=by kernel_rfl
def ogE5:Orc:=HF (Orc.f (Orc.f (Orc.t (HF (Orc.f (Orc.t (Orc.t Orc.z)))))))
theorem zaxg (xs:List Int)(at_ d:Int)(at1 at2:Int)(a r:ByteArray):gE5 ogE5 xs at_ d at1 at2 a r=(let z1:=[(58:UInt8),(58:UInt8),(40:UInt8)]; ∃ (_:Unit),(zadZ xs at_)/\decide (d>3)=false/\Nf4 (decide (at1>20)=false/\Yt (inR IntKind.i64 (d+1)=true/\∃ (_:Unit),(zago d xs at1)/\Nf4 (Nf (Yt (Yt (decide (3+ByteArray.size a<=9223372036854775807)=true/\decide (ByteArray.size ({ data:={ toList:=z1 } }++a)+1<=9223372036854775807)=true/\Wk (s0 ({ data:={ toList:=z1 } }++a++⟨⟨[(41:UInt8)]⟩⟩)) (s0 r)/\SameH (hpL (zabW xs at2)) (hpL (zabW xs at2))))))))):=by kernel_rfl
def ogE6:Orc:=HF (Orc.f (Orc.f (Orc.t (HF (Orc.f (Orc.f (Orc.t Orc.z)))))))
theorem zaxe (xs:List Int)(at_ d:Int)(at1 at2:Int)(a r:ByteArray):gE6 ogE6 xs at_ d at1 at2 a r=(let z1:=[(58:UInt8),(58:UInt8),(40:UInt8)]; ∃ (_:Unit),(zadZ xs at_)/\decide (d>3)=false/\Nf4 (decide (at1>20)=false/\Yt (inR IntKind.i64 (d+1)=true/\∃ (_:Unit),(zago d xs at1)/\Nf4 (Nf (Nf (Yt (decide (3+ByteArray.size a<=9223372036854775807)=true/\decide (ByteArray.size ({ data:={ toList:=z1 } }++a)+1<=9223372036854775807)=true/\Wk (s0 ({ data:={ toList:=z1 } }++a++⟨⟨[(41:UInt8)]⟩⟩)) (s0 r)/\SameH (hpL (zabW xs at2)) (hpL (zabW xs at2))))))))):=by kernel_rfl
def ogE7:Orc:=HF (Orc.f (Orc.f (Orc.t (HF (Orc.f (Orc.f (Orc.f (Orc.t (Orc.t Orc.z)))))))))
theorem zaxc (xs:List Int)(at_ d:Int)(at1 at2:Int)(a r:ByteArray):gE7 ogE7 xs at_ d at1 at2 a r=(∃ (_:Unit),(zadZ xs at_)/\decide (d>3)=false/\Nf4 (decide (at1>20)=false/\Yt (inR IntKind.i64 (d+1)=true/\∃ (_:Unit),(zago d xs at1)/\Nf4 (Nf (Nf (Nf (Yt (Yt (decide (1+ByteArray.size a<=9223372036854775807)=true/\decide (ByteArray.size (⟨⟨[(40:UInt8)]⟩⟩++a)+3<=9223372036854775807)=true/\Wk (s0 (⟨⟨[(40:UInt8)]⟩⟩++a++⟨⟨[(41:UInt8),(58:UInt8),(58:UInt8)]⟩⟩)) (s0 r)/\SameH (hpL (zabW xs at2)) (hpL (zabW xs at2))))))))))):=by kernel_rfl
def ogE8:Orc:=HF (Orc.f (Orc.f (Orc.t (HF (HF (Orc.t Orc.z))))))
theorem zaxa (xs:List Int)(at_ d:Int)(at1 at2:Int)(a r:ByteArray):gE8 ogE8 xs at_ d at1 at2 a r=(∃ (_:Unit),(zadZ xs at_)/\decide (d>3)=false/\Nf4 (decide (at1>20)=false/\Yt (inR IntKind.i64 (d+1)=true/\∃ (_:Unit),(zago d xs at1)/\Nf4 (Nf4 (Yt (decide (1+ByteArray.size a<=9223372036854775807)=true/\decide (ByteArray.size (⟨⟨[(40:UInt8)]⟩⟩++a)+3<=9223372036854775807)=true/\Wk (s0 (⟨⟨[(40:UInt8)]⟩⟩++a++⟨⟨[(41:UInt8),(58:UInt8),(58:UInt8)]⟩⟩)) (s0 r)/\SameH (hpL (zabW xs at2)) (hpL (zabW xs at2)))))))):=by kernel_rfl
def ogE9:Orc:=HF (Orc.f (Orc.f (Orc.t (Orc.alt 0 (HF (HF (Orc.f (Orc.t (Orc.alt 1 Orc.z)))))))))
theorem zaw9 (xs:List Int)(at_ d:Int)(at1 at2 at3:Int)(a b r:ByteArray):gE9 ogE9 xs at_ d at1 at2 at3 a b r=(let z1:=[(41:UInt8),(58:UInt8),(58:UInt8),(40:UInt8)]; let z2:=[AV.ptr 1048577 [0,0] 0 0,i0 (d+1)]; let z3:=[(40:UInt8)]; ∃ (_:Unit),(zadZ xs at_)/\decide (d>3)=false/\Nf4 (decide (at1>20)=false/\Yt (inR IntKind.i64 (d+1)=true/\∃ (_:Unit),(zago d xs at1)/\Nf4 (Nf4 (Nf (Yt (decide (1+ByteArray.size a<=9223372036854775807)=true/\decide (ByteArray.size ({ data:={ toList:=z3 } }++a)+4<=9223372036854775807)=true/\inR IntKind.i64 (d+1)=true/\U1 z2 (zabW xs at2) (decide (ByteArray.size ({ data:={ toList:=z3 } }++a++{ data:={ toList:=z1 } })+ByteArray.size b<=9223372036854775807)=true/\decide (ByteArray.size ({ data:={ toList:=z3 } }++a++{ data:={ toList:=z1 } }++b)+1<=9223372036854775807)=true/\Wk (s0 ({ data:={ toList:=z3 } }++a++{ data:={ toList:=z1 } }++b++⟨⟨[(41:UInt8)]⟩⟩)) (s0 r)/\SameH (hpL (zamv xs at3)) (hpL (zamv xs at3)))))))))):=by kernel_rfl
def zazv:Orc:=HF (Orc.f (Orc.f (Orc.t (Orc.alt 0 (HF (HF (Orc.f (Orc.f (Orc.t (Orc.alt 1 Orc.z))))))))))
theorem zavl (xs:List Int)(at_ d:Int)(at1 at2 at3:Int)(a b r:ByteArray):gE10 zazv xs at_ d at1 at2 at3 a b r=(let z1:=[(41:UInt8),(46:UInt8),(46:UInt8),(40:UInt8)]; let z2:=[AV.ptr 1048577 [0,0] 0 0,i0 (d+1)]; let z3:=[(40:UInt8)]; ∃ (_:Unit),(zadZ xs at_)/\decide (d>3)=false/\Nf4 (decide (at1>20)=false/\Yt (inR IntKind.i64 (d+1)=true/\∃ (_:Unit),(zago d xs at1)/\Nf4 (Nf4 (Nf (Nf (Yt (decide (1+ByteArray.size a<=9223372036854775807)=true/\decide (ByteArray.size ({ data:={ toList:=z3 } }++a)+4<=9223372036854775807)=true/\inR IntKind.i64 (d+1)=true/\U1 z2 (zabW xs at2) (decide (ByteArray.size ({ data:={ toList:=z3 } }++a++{ data:={ toList:=z1 } })+ByteArray.size b<=9223372036854775807)=true/\decide (ByteArray.size ({ data:={ toList:=z3 } }++a++{ data:={ toList:=z1 } }++b)+1<=9223372036854775807)=true/\Wk (s0 ({ data:={ toList:=z3 } }++a++{ data:={ toList:=z1 } }++b++⟨⟨[(41:UInt8)]⟩⟩)) (s0 r)/\SameH (hpL (zamv xs at3)) (hpL (zamv xs at3))))))))))):=by kernel_rfl
def zazu:Orc:=HF (Orc.f (Orc.f (Orc.t (HF (HF (Orc.f (Orc.f (Orc.f (Orc.t Orc.z)))))))))
theorem zavj (xs:List Int)(at_ d:Int)(at1 at2:Int)(a r:ByteArray):gE11 zazu xs at_ d at1 at2 a r=(let z1:=[(112:UInt8),(97:UInt8),(114:UInt8),(101:UInt8),(110:UInt8),(116:UInt8),(115:UInt8),(40:UInt8)]; ∃ (_:Unit),(zadZ xs at_)/\decide (d>3)=false/\Nf4 (decide (at1>20)=false/\Yt (inR IntKind.i64 (d+1)=true/\∃ (_:Unit),(zago d xs at1)/\Nf4 (Nf4 (Nf (Nf (Nf (Yt (decide (8+ByteArray.size a<=9223372036854775807)=true/\decide (ByteArray.size ({ data:={ toList:=z1 } }++a)+1<=9223372036854775807)=true/\Wk (s0 ({ data:={ toList:=z1 } }++a++⟨⟨[(41:UInt8)]⟩⟩)) (s0 r)/\SameH (hpL (zabW xs at2)) (hpL (zabW xs at2))))))))))):=by kernel_rfl
def zazt:Orc:=HF (Orc.f (Orc.f (Orc.t (HF (HF (HF (Orc.t Orc.z)))))))
theorem zavh (xs:List Int)(at_ d:Int)(at1 at2:Int)(a r:ByteArray):gE12 zazt xs at_ d at1 at2 a r=(let z1:=[(99:UInt8),(104:UInt8),(105:UInt8),(108:UInt8),(100:UInt8),(114:UInt8),(101:UInt8),(110:UInt8),(40:UInt8),(32:UInt8)]; ∃ (_:Unit),(zadZ xs at_)/\decide (d>3)=false/\Nf4 (decide (at1>20)=false/\Yt (inR IntKind.i64 (d+1)=true/\∃ (_:Unit),(zago d xs at1)/\Nf4 (Nf4 (Nf4 (Yt (decide (10+ByteArray.size a<=9223372036854775807)=true/\decide (ByteArray.size ({ data:={ toList:=z1 } }++a)+2<=9223372036854775807)=true/\Wk (s0 ({ data:={ toList:=z1 } }++a++⟨⟨[(32:UInt8),(41:UInt8)]⟩⟩)) (s0 r)/\SameH (hpL (zabW xs at2)) (hpL (zabW xs at2))))))))):=by kernel_rfl
def zazs:Orc:=HF (Orc.f (Orc.f (Orc.t (HF (HF (HF (Orc.f (Orc.t Orc.z))))))))
theorem zavf (xs:List Int)(at_ d:Int)(at1 at2:Int)(a r:ByteArray):gE13 zazs xs at_ d at1 at2 a r=(let z1:=[(97:UInt8),(110:UInt8),(99:UInt8),(101:UInt8),(115:UInt8),(116:UInt8),(111:UInt8),(114:UInt8),(115:UInt8),(40:UInt8)]; ∃ (_:Unit),(zadZ xs at_)/\decide (d>3)=false/\Nf4 (decide (at1>20)=false/\Yt (inR IntKind.i64 (d+1)=true/\∃ (_:Unit),(zago d xs at1)/\Nf4 (Nf4 (Nf4 (Nf (Yt (decide (10+ByteArray.size a<=9223372036854775807)=true/\decide (ByteArray.size ({ data:={ toList:=z1 } }++a)+1<=9223372036854775807)=true/\Wk (s0 ({ data:={ toList:=z1 } }++a++⟨⟨[(41:UInt8)]⟩⟩)) (s0 r)/\SameH (hpL (zabW xs at2)) (hpL (zabW xs at2)))))))))):=by kernel_rfl
def zazr:Orc:=HF (Orc.f (Orc.f (Orc.t (HF (HF (HF (Orc.f (Orc.f (Orc.t Orc.z)))))))))
theorem zavd (xs:List Int)(at_ d:Int)(at1 at2:Int)(a r:ByteArray):gE14 zazr xs at_ d at1 at2 a r=(let z1:=[(100:UInt8),(101:UInt8),(115:UInt8),(99:UInt8),(101:UInt8),(110:UInt8),(100:UInt8),(97:UInt8),(110:UInt8),(116:UInt8),(115:UInt8),(40:UInt8)]; ∃ (_:Unit),(zadZ xs at_)/\decide (d>3)=false/\Nf4 (decide (at1>20)=false/\Yt (inR IntKind.i64 (d+1)=true/\∃ (_:Unit),(zago d xs at1)/\Nf4 (Nf4 (Nf4 (Nf (Nf (Yt (decide (12+ByteArray.size a<=9223372036854775807)=true/\decide (ByteArray.size ({ data:={ toList:=z1 } }++a)+1<=9223372036854775807)=true/\Wk (s0 ({ data:={ toList:=z1 } }++a++⟨⟨[(41:UInt8)]⟩⟩)) (s0 r)/\SameH (hpL (zabW xs at2)) (hpL (zabW xs at2))))))))))):=by kernel_rfl
def zazq:Orc:=HF (Orc.f (Orc.f (Orc.t (HF (HF (HF (Orc.f (Orc.f (Orc.f (Orc.t (Orc.t Orc.z)))))))))))
theorem zavb (xs:List Int)(at_ d:Int)(at1 at2:Int)(a r:ByteArray):gE15 zazq xs at_ d at1 at2 a r=(let z1:=[(104:UInt8),(101:UInt8),(97:UInt8),(100:UInt8),(115:UInt8),(40:UInt8)]; ∃ (_:Unit),(zadZ xs at_)/\decide (d>3)=false/\Nf4 (decide (at1>20)=false/\Yt (inR IntKind.i64 (d+1)=true/\∃ (_:Unit),(zago d xs at1)/\Nf4 (Nf4 (Nf4 (Nf (Nf (Nf (Yt (Yt (decide (6+ByteArray.size a<=9223372036854775807)=true/\decide (ByteArray.size ({ data:={ toList:=z1 } }++a)+1<=9223372036854775807)=true/\Wk (s0 ({ data:={ toList:=z1 } }++a++⟨⟨[(41:UInt8)]⟩⟩)) (s0 r)/\SameH (hpL (zabW xs at2)) (hpL (zabW xs at2))))))))))))):=by kernel_rfl
def zazp:Orc:=HF (Orc.f (Orc.f (Orc.t (HF (HF (HF (HF (Orc.t Orc.z))))))))
theorem zav (xs:List Int)(at_ d:Int)(at1 at2:Int)(a r:ByteArray):gE16 zazp xs at_ d at1 at2 a r=(let z1:=[(104:UInt8),(101:UInt8),(97:UInt8),(100:UInt8),(115:UInt8),(40:UInt8)]; ∃ (_:Unit),(zadZ xs at_)/\decide (d>3)=false/\Nf4 (decide (at1>20)=false/\Yt (inR IntKind.i64 (d+1)=true/\∃ (_:Unit),(zago d xs at1)/\Nf4 (Nf4 (Nf4 (Nf4 (Yt (decide (6+ByteArray.size a<=9223372036854775807)=true/\decide (ByteArray.size ({ data:={ toList:=z1 } }++a)+1<=9223372036854775807)=true/\Wk (s0 ({ data:={ toList:=z1 } }++a++⟨⟨[(41:UInt8)]⟩⟩)) (s0 r)/\SameH (hpL (zabW xs at2)) (hpL (zabW xs at2)))))))))):=by kernel_rfl
def zazo:Orc:=HF (Orc.f (Orc.f (Orc.t (HF (HF (HF (HF (Orc.f (Orc.t Orc.z)))))))))
theorem zau8 (xs:List Int)(at_ d:Int)(at1 at2:Int)(a r:ByteArray):gE17 zazo xs at_ d at1 at2 a r=(let z1:=[(114:UInt8),(111:UInt8),(111:UInt8),(116:UInt8),(115:UInt8),(40:UInt8)]; ∃ (_:Unit),(zadZ xs at_)/\decide (d>3)=false/\Nf4 (decide (at1>20)=false/\Yt (inR IntKind.i64 (d+1)=true/\∃ (_:Unit),(zago d xs at1)/\Nf4 (Nf4 (Nf4 (Nf4 (Nf (Yt (decide (6+ByteArray.size a<=9223372036854775807)=true/\decide (ByteArray.size ({ data:={ toList:=z1 } }++a)+1<=9223372036854775807)=true/\Wk (s0 ({ data:={ toList:=z1 } }++a++⟨⟨[(41:UInt8)]⟩⟩)) (s0 r)/\SameH (hpL (zabW xs at2)) (hpL (zabW xs at2))))))))))):=by kernel_rfl
def zazn:Orc:=Orc.alt 0 (HF (Orc.f (Orc.f (Orc.t (HF (HF (HF (HF (Orc.f (Orc.f (Orc.t (Orc.alt 1 (Orc.alt 2 Orc.z)))))))))))))
theorem zau6 (xs:List Int)(at_ d:Int)(at1 at2:Int)(at3 at4:Int)(v w:Int)(a r:ByteArray):gE18 zazn xs at_ d at1 at2 at3 at4 v w a r=(let z1:=[Value.string zaaY,Value.string zacx,Value.string zaa8]; let z2:=[(48:UInt8),(48:UInt8),(55:UInt8)]; let z3:=(hpL [eR 1048577 [0,0] 2 [AV.agg [AV.lst false 1 (List.map i0 xs),i0 at4]]]); let z4:=AV.ptr 1048577 [0,0] 0 0; let z5:=[(44:UInt8),(32:UInt8)]; let z6:=[(40:UInt8)]; let z7:=[(48:UInt8)]; let z8:=[(49:UInt8)]; let z9:=[(51:UInt8)]; ∃ (_:Unit),(zadZ xs at_)/\decide (d>3)=false/\Nf4 (decide (at1>20)=false/\Yt (inR IntKind.i64 (d+1)=true/\∃ (_:Unit),(zago d xs at1)/\Nf4 (Nf4 (Nf4 (Nf4 (Nf (Nf (Yt (U1 [z4,i0 3] (zabW xs at2) ((decide ((0:Int)<=v/\v<3)&&(true&&List.all z1 zaiP))=true/\decide (ByteArray.size (List.getD (zaaQ z1) (Int.toNat v) ByteArray.empty)+1<=9223372036854775807)=true/\decide (ByteArray.size (List.getD (zaaQ z1) (Int.toNat v) ByteArray.empty++{ data:={ toList:=z6 } })+ByteArray.size a<=9223372036854775807)=true/\decide (ByteArray.size (List.getD (zaaQ z1) (Int.toNat v) ByteArray.empty++{ data:={ toList:=z6 } }++a)+2<=9223372036854775807)=true/\U1 [z4,i0 4] (zamv xs at3) ((decide ((0:Int)<=w/\w<4)&&(true&&List.all [Value.string { data:={ toList:=z7 } },Value.string { data:={ toList:=z8 } },Value.string { data:={ toList:=z9 } },Value.string { data:={ toList:=z2 } }] zaiP))=true/\decide (ByteArray.size (List.getD (zaaQ z1) (Int.toNat v) ByteArray.empty++{ data:={ toList:=z6 } }++a++{ data:={ toList:=z5 } })+ByteArray.size (List.getD (zaaQ [Value.string { data:={ toList:=z7 } },Value.string { data:={ toList:=z8 } },Value.string { data:={ toList:=z9 } },Value.string { data:={ toList:=z2 } }]) (Int.toNat w) ByteArray.empty)<=9223372036854775807)=true/\decide (ByteArray.size (List.getD (zaaQ z1) (Int.toNat v) ByteArray.empty++{ data:={ toList:=z6 } }++a++{ data:={ toList:=z5 } }++List.getD (zaaQ [Value.string { data:={ toList:=z7 } },Value.string { data:={ toList:=z8 } },Value.string { data:={ toList:=z9 } },Value.string { data:={ toList:=z2 } }]) (Int.toNat w) ByteArray.empty)+1<=9223372036854775807)=true/\Wk (s0 (List.getD (zaaQ z1) (Int.toNat v) ByteArray.empty++{ data:={ toList:=z6 } }++a++{ data:={ toList:=z5 } }++List.getD (zaaQ [Value.string { data:={ toList:=z7 } },Value.string { data:={ toList:=z8 } },Value.string { data:={ toList:=z9 } },Value.string { data:={ toList:=z2 } }]) (Int.toNat w) ByteArray.empty++⟨⟨[(41:UInt8)]⟩⟩)) (s0 r)/\SameH z3 z3)))))))))))):=by kernel_rfl
def zazm:Orc:=HF (Orc.f (Orc.f (Orc.t (HF (HF (HF (HF (Orc.f (Orc.f (Orc.f (Orc.t Orc.z)))))))))))
theorem zau4 (xs:List Int)(at_ d:Int)(at1 at2:Int)(a r:ByteArray):gE19 zazm xs at_ d at1 at2 a r=(let z1:=[(33:UInt8),(33:UInt8),(40:UInt8)]; ∃ (_:Unit),(zadZ xs at_)/\decide (d>3)=false/\Nf4 (decide (at1>20)=false/\Yt (inR IntKind.i64 (d+1)=true/\∃ (_:Unit),(zago d xs at1)/\Nf4 (Nf4 (Nf4 (Nf4 (Nf (Nf (Nf (Yt (decide (3+ByteArray.size a<=9223372036854775807)=true/\decide (ByteArray.size ({ data:={ toList:=z1 } }++a)+1<=9223372036854775807)=true/\Wk (s0 ({ data:={ toList:=z1 } }++a++⟨⟨[(41:UInt8)]⟩⟩)) (s0 r)/\SameH (hpL (zabW xs at2)) (hpL (zabW xs at2))))))))))))):=by kernel_rfl
end Go.Proofs.YtpofhijgccocpaaGreatDoor
end
section
namespace Go.Proofs.YtpofhijgccocpaaGreatDoor
open Go.AS Go.TP
noncomputable section
abbrev zajO (xs:List Int)(at_ n at' v:Int):Prop:=FOk Tryz.prog gl0 zaaP [mArg,i0 n] (zajS xs at_) (mOut xs at' (i0 v))
abbrev zaxG (xs:List Int)(at_ at':Int)(s:ByteArray):Prop:=FOk Tryz.prog gl0 zaa7 [mArg] (zajS xs at_) (mOut xs at' (s0 s))
abbrev zaid (xs:List Int)(at_ d at':Int)(s:ByteArray):Prop:=FOk Tryz.prog gl0 zabT [mArg,i0 d] (zajS xs at_) (mOut xs at' (s0 s))
theorem zajG {f:Nat}{s t:Sp}(h:∀ i,s.pre i->FOk Tryz.prog gl0 f (s.args i) (s.heap i) (s.out i))(g:∀ i,t.pre i->FOk Tryz.prog gl0 f (t.args i) (t.heap i) (t.out i)):zagn Tryz.prog gl0 f (Sp.con [s,t]) :=
 Sp.ok fun u hu i hp=>by
  rcases List.mem_cons.1 hu with rfl | hu
  · exact h i hp
  · obtain rfl:=List.mem_singleton.1 hu; exact g i hp
theorem zaxx {f:Nat}{s t u:Sp}(h:∀ i,s.pre i->FOk Tryz.prog gl0 f (s.args i) (s.heap i) (s.out i))(g:∀ i,t.pre i->FOk Tryz.prog gl0 f (t.args i) (t.heap i) (t.out i))(k:∀ i,u.pre i->FOk Tryz.prog gl0 f (u.args i) (u.heap i) (u.out i)):zagn Tryz.prog gl0 f (Sp.con [s,t,u]) :=
 Sp.ok fun w hw i hp=>by
  rcases List.mem_cons.1 hw with rfl | hw
  · exact h i hp
  · rcases List.mem_cons.1 hw with rfl | hw
    · exact g i hp
    · obtain rfl:=List.mem_singleton.1 hw; exact k i hp
theorem zaAF {p:Int}(h0:0<=p)(h1:p<60)(k:Nat):0<=hB p k/\hB p k<256:=by
 unfold hB
 match k with
 | 0 =>
  show 0<=hb0 p/\hb0 p<256
  have:(p % 6).toNat=0∨(p % 6).toNat=1∨(p % 6).toNat=2∨(p % 6).toNat=3∨(p % 6).toNat=4∨(p % 6).toNat=5:=by omega
  unfold hb0
  rcases this with h | h | h | h | h | h <;> rw [h] <;> decide
 | 1=>show 0<=p / 6*16 % 256/\p / 6*16 % 256<256; omega
 | 2=>show 0<=p*7 % 256/\p*7 % 256<256; omega
 | k+3 =>
  show 0<=(if k+3=31 then p else 0)/\(if k+3=31 then p else 0)<256
  split <;> omega
def zav2 (t:ByteArray)(w:Int):ByteArray:=bif w==0 then t.extract 0 2 else bif w==1 then t.extract 0 4 else bif w==2 then ⟨⟨[48,48]⟩⟩ else bif w==3 then t.extract 0 6 else bif w==4 then t.extract 0 6 else bif w==5 then t.extract 0 6 else t
theorem zakR {t:ByteArray}(ht:t.size=64)(w:Int):(zav2 t w).size<=64:=by
 have h:∀ n,(t.extract 0 n).size<=64:=fun n=>by rw [ByteArray.size_extract]; omega
 have c:∀ (b:Bool) (x y:ByteArray),x.size<=64->y.size<=64->(bif b then x else y).size<=64:=fun b x y hx hy=>by cases b <;> assumption
 exact c _ _ _ (h _) (c _ _ _ (h _) (c _ _ _ (by decide) (c _ _ _ (h _) (c _ _ _ (h _) (c _ _ _ (h _) (Nat.le_of_eq ht))))))
theorem zalH {t:ByteArray}(ht:t.size=64)(n:Int)(h0:0<=n)(hn:n<=64):decide ((0:Int)<=0/\(0:Int)<=Option.getD (some n) (t.size:Int)/\Option.getD (some n) (t.size:Int)<=(t.size:Int)/\false=false)=true:=by
 rw [Option.getD_some,ht]; exact decide_eq_true ⟨Int.le_refl _,h0,hn,rfl⟩
def zazw:Orc:=Orc.alt 0 (Orc.alt 1 (Orc.s Orc.z (Orc.s Orc.z (Orc.s Orc.z (Orc.s (Orc.t Orc.z) (Orc.s (Orc.t Orc.z) (Orc.s Orc.z Orc.z)))))))
theorem zap8 (xs:List Int)(at_ p at1 w at2:Int)(t:ByteArray)(h0:0<=p)(h1:p<60)(ht:t.size=64):zazQ zazw xs at_ p at1 w at2 t (zav2 t w):=by
 unfold zazw
 rw [zap7]
 unfold zav2
 refine ⟨(),⟨trivial, .refl _,rfl⟩,p,⟨⟨h0,h1⟩, .refl _,rfl⟩,ByteArray.empty,⟨rfl, .refl _,rfl⟩,(),⟨trivial, .refl _,rfl⟩,fun h=>⟨zalH ht 2 (by decide) (by decide),by rw [h]; exact .refl _, .rfl⟩,fun h => ?_⟩
 refine ⟨fun g=>⟨zalH ht 4 (by decide) (by decide),by rw [h,g]; exact .refl _, .rfl⟩,fun g => ?_⟩
 refine ⟨fun e=>⟨by rw [h,g,e]; exact .refl _, .rfl⟩,fun e => ?_⟩
 refine ⟨fun e3=>⟨rfl,zalH ht 6 (by decide) (by decide),by rw [h,g,e,e3]; exact .refl _, .rfl⟩,fun e3 => ?_⟩
 refine ⟨fun e4=>⟨rfl,zalH ht 6 (by decide) (by decide),by rw [h,g,e,e3,e4]; exact .refl _, .rfl⟩,fun e4 => ?_⟩
 exact ⟨fun e5=>⟨zalH ht 6 (by decide) (by decide),by rw [h,g,e,e3,e4,e5]; exact .refl _, .rfl⟩,fun e5=>⟨by rw [h,g,e,e3,e4,e5]; exact .refl _, .rfl⟩⟩
set_option maxRecDepth 100000 in
theorem zaAw {X:WX}(hX:X.Sound)(hp:X.px=X0){xs:List Int}{at_:Int}{h:Nat->Int}{t:ByteArray}(hB:BNm xs at_ h ByteArray.empty 0 t):(X.addLp zaa7 0 (lpNm (fun s=>s=ByteArray.empty) xs at_ h 0 (nOut xs at_ h t))).Sound:=by
 have hP:X.px.P=Tryz.prog:=by rw [hp]; rfl
 have hg:X.px.gl=gl0:=by rw [hp]; rfl
 refine hX.addLp (fn:=fn zaa7) (code:=code zaa7) (by rw [hP]; exact fnOk zaa7 (by kernel_rfl)) (show (fn zaa7).body=some (code zaa7) by kernel_rfl) (by kernel_rfl) ?_
 rw [hP,hg]
 exact Spl.ok (l:=[zazx (fun s=>s=ByteArray.empty) xs at_ h 0 t]) rfl (show ([0,3,4,5,6]:List Nat).Nodup by decide) fun s' hs' i hi=>by
   obtain rfl:=List.mem_singleton.1 hs'
   obtain rfl:i=ByteArray.empty:=hi
   exact hB
attribute [local irreducible] runF in
set_option maxRecDepth 100000 in
theorem zasB (xs:List Int)(at_:Int)(hx:okXs xs)(h0:0<=at_)(h1:at_<=10000):∃ at' s,at_<=at'/\at'<=at_+2/\s.size<=64/\zaxG xs at_ at' s:=by
 obtain ⟨p,at1,a1,a2,a3,a4,hn1⟩:=zacr xs at_ 60 hx h0 (by omega) (by decide) (by decide)
 obtain ⟨w,at2,b1,b2,b3,b4,hn2⟩:=zacr xs at1 12 hx (by omega) (by omega) (by decide) (by decide)
 obtain ⟨t,ht,hB⟩:=nm0 xs at1 (hB p) (zaAF a1 a2) ByteArray.empty rfl
 refine ⟨at2,zav2 t w,by omega,by omega,zakR ht w,?_⟩
 have hX:(XH.add zaaP (Sp.con [zabu xs at_ 60 at1 p,zabu xs at1 12 at2 w])).Sound:=zaoh.add (zajG (fun _ _=>hn1) (fun _ _=>hn2))
 exact zadS (d:=10) ((zaAw hX rfl hB).ask [zaa7]) (f:=zaa7) (fn:=fn zaa7) (code:=code zaa7) (fnOk zaa7 (by kernel_rfl)) (show (fn zaa7).body=some (code zaa7) by kernel_rfl) (by kernel_rfl) (zap8 xs at_ p at1 w at2 t a1 a2 ht)
theorem szL (l:List UInt8):ByteArray.size ⟨⟨l⟩⟩=l.length:=rfl
theorem getS (l:List Value)(n m:Nat)(h:(zaaQ l).all (fun x=>decide (x.size<=m))=true):((zaaQ l).getD n ByteArray.empty).size<=m:=by
 rw [List.all_eq_true] at h
 rw [List.getD_eq_getElem?_getD]
 cases hc:(zaaQ l)[n]? with
 | none=>exact Nat.zero_le _
 | some x=>exact of_decide_eq_true (h x (List.mem_of_getElem? hc))
theorem andT {a b:Bool}(ha:a=true)(hb:b=true):(a&&b)=true:=by rw [ha,hb]; rfl
theorem zadF {p:Prop}(h:p:=by repeat (first | refine And.intro ?_ ?_ | refine Exists.intro () ?_ | exact True.intro | exact Wks.refl _ | exact Wk.refl _ | exact SameH.rfl | exact zaao (by omega) (by omega) | exact decide_eq_true (by omega) | exact decide_eq_true (by simp only [ByteArray.size_append,szL,List.length_cons,List.length_nil]; omega) | exact decide_eq_false (by omega) | exact beq_eq_false_iff_ne.2 (by omega) | exact beq_iff_eq.2 (by omega) | exact andT (decide_eq_true (by omega)) rfl | exact rfl)):p:=h
attribute [local irreducible] runF in
set_option maxRecDepth 100000 in
theorem exFn {X:WX}(hX:X.Sound)(hp:X.px=X0){os:Orc}{xs:List Int}{at_ d at':Int}{r:ByteArray}(g:gEx X os xs at_ d at' r):zaid xs at_ d at' r:=by
 have hP:X.px.P=Tryz.prog:=by rw [hp]; rfl
 have hg:X.px.gl=gl0:=by rw [hp]; rfl
 have:=zadS (X:=X.ask [zabT]) (d:=12) (hX.ask _) (f:=zabT) (fn:=fn zabT) (code:=code zabT) (by show X.px.P.funcs[zabT]?=_; rw [hP]; exact fnOk zabT (by kernel_rfl)) (show (fn zabT).body=some (code zabT) by kernel_rfl) (by kernel_rfl) g
 show FOk Tryz.prog gl0 zabT _ _ _
 rw [<-hg,<-hP]; exact this
theorem zauI (xs:List Int)(at_ d at1 at2 k v:Int)(k0:0<=k)(_:k<26)(v0:0<=v)(v1:v<3)(hd:d>3)(hk:k % 6=0):∃ r,ByteArray.size r<=64/\gLaA zazd xs at_ d at1 at2 k v r:=by
 have hV:=getS [Value.string { data:={ toList:=[(97:UInt8),(108:UInt8),(108:UInt8),(40:UInt8),(41:UInt8)] } },Value.string { data:={ toList:=[(109:UInt8),(97:UInt8),(115:UInt8),(116:UInt8),(101:UInt8),(114:UInt8),(40:UInt8),(41:UInt8)] } },Value.string { data:={ toList:=[(110:UInt8),(111:UInt8),(110:UInt8),(101:UInt8),(40:UInt8),(41:UInt8)] } }] (Int.toNat v) 16 rfl
 have tm:k.tmod 6=k % 6:=Int.tmod_eq_emod_of_nonneg k0
 refine ⟨_,Nat.le_trans hV (by decide),?_⟩
 rw [zauH,tm]
 exact zadF
theorem zauA (xs:List Int)(at_ d at1 at2 k:Int)(s:ByteArray)(k0:0<=k)(_:k<26)(hd:d>3)(hk:k % 6≠0):gLnA zaz xs at_ d at1 at2 k s:=by
 have tm:k.tmod 6=k % 6:=Int.tmod_eq_emod_of_nonneg k0
 rw [zauz,tm]
 exact zadF
theorem zauG (xs:List Int)(at_ d at1 at2 k v:Int)(k0:0<=k)(_:k<26)(v0:0<=v)(v1:v<3)(hd:d<=3)(ha:at1>20)(hk:k % 6=0):∃ r,ByteArray.size r<=64/\gLaB zazc xs at_ d at1 at2 k v r:=by
 have hV:=getS [Value.string { data:={ toList:=[(97:UInt8),(108:UInt8),(108:UInt8),(40:UInt8),(41:UInt8)] } },Value.string { data:={ toList:=[(109:UInt8),(97:UInt8),(115:UInt8),(116:UInt8),(101:UInt8),(114:UInt8),(40:UInt8),(41:UInt8)] } },Value.string { data:={ toList:=[(110:UInt8),(111:UInt8),(110:UInt8),(101:UInt8),(40:UInt8),(41:UInt8)] } }] (Int.toNat v) 16 rfl
 have tm:k.tmod 6=k % 6:=Int.tmod_eq_emod_of_nonneg k0
 refine ⟨_,Nat.le_trans hV (by decide),?_⟩
 rw [zauF,tm]
 exact zadF
theorem zauy (xs:List Int)(at_ d at1 at2 k:Int)(s:ByteArray)(k0:0<=k)(_:k<26)(hd:d<=3)(ha:at1>20)(hk:k % 6≠0):gLnB zay9 xs at_ d at1 at2 k s:=by
 have tm:k.tmod 6=k % 6:=Int.tmod_eq_emod_of_nonneg k0
 rw [zaux,tm]
 exact zadF
theorem zauE (xs:List Int)(at_ d at1 at2 k v:Int)(_:0<=k)(_:k<26)(v0:0<=v)(v1:v<3)(hd:d<=3)(ha:at1<=20)(hk:k=20):∃ r,ByteArray.size r<=64/\gLaC zazb xs at_ d at1 at2 k v r:=by
 have hV:=getS [Value.string { data:={ toList:=[(97:UInt8),(108:UInt8),(108:UInt8),(40:UInt8),(41:UInt8)] } },Value.string { data:={ toList:=[(109:UInt8),(97:UInt8),(115:UInt8),(116:UInt8),(101:UInt8),(114:UInt8),(40:UInt8),(41:UInt8)] } },Value.string { data:={ toList:=[(110:UInt8),(111:UInt8),(110:UInt8),(101:UInt8),(40:UInt8),(41:UInt8)] } }] (Int.toNat v) 16 rfl
 refine ⟨_,Nat.le_trans hV (by decide),?_⟩
 rw [zauD]
 exact zadF
theorem zauw (xs:List Int)(at_ d at1 at2 k:Int)(s:ByteArray)(k0:0<=k)(k1:k<26)(hd:d<=3)(ha:at1<=20)(hk:k>20):gLnC zay8 xs at_ d at1 at2 k s:=by
 rw [zauv]
 exact zadF
theorem zaxr (xs:List Int)(at_ d at1 at2 at3 at4 v:Int)(a b:ByteArray)(T:Nat)(hT:T<=2000)(ha:a.size<=T)(hb:b.size<=T)(v0:0<=v)(v1:v<3)(d0:0<=d)(d3:d<=3)(h1:at1<=20):∃ r,ByteArray.size r<=2*T+20/\gE0 ogE0 xs at_ d at1 at2 at3 at4 v a b r:=by
 have hV:=getS [Value.string { data:={ toList:=[(32:UInt8),(111:UInt8),(114:UInt8),(32:UInt8)] } },Value.string { data:={ toList:=[(43:UInt8)] } },Value.string { data:={ toList:=[(32:UInt8),(124:UInt8),(32:UInt8)] } }] (Int.toNat v) 7 rfl
 apply Exists.intro
 refine And.intro ?sz ?go
 case go =>
  rw [zaxq]
  exact zadF
 case sz =>
  simp only [ByteArray.size_append,szL,List.length_cons,List.length_nil]
  omega
theorem zaxp (xs:List Int)(at_ d at1 at2 at3 at4 v:Int)(a b:ByteArray)(T:Nat)(hT:T<=2000)(ha:a.size<=T)(hb:b.size<=T)(v0:0<=v)(v1:v<3)(d0:0<=d)(d3:d<=3)(h1:at1<=20):∃ r,ByteArray.size r<=2*T+20/\gE1 ogE1 xs at_ d at1 at2 at3 at4 v a b r:=by
 have hV:=getS [Value.string { data:={ toList:=[(32:UInt8),(45:UInt8),(32:UInt8)] } },Value.string { data:={ toList:=[(45:UInt8)] } },Value.string { data:={ toList:=[(32:UInt8),(109:UInt8),(105:UInt8),(110:UInt8),(117:UInt8),(115:UInt8),(32:UInt8)] } }] (Int.toNat v) 7 rfl
 apply Exists.intro
 refine And.intro ?sz ?go
 case go =>
  rw [zaxo]
  exact zadF
 case sz =>
  simp only [ByteArray.size_append,szL,List.length_cons,List.length_nil]
  omega
theorem zaxn (xs:List Int)(at_ d at1 at2 at3 at4 v:Int)(a b:ByteArray)(T:Nat)(hT:T<=2000)(ha:a.size<=T)(hb:b.size<=T)(v0:0<=v)(v1:v<2)(d0:0<=d)(d3:d<=3)(h1:at1<=20):∃ r,ByteArray.size r<=2*T+20/\gE2 ogE2 xs at_ d at1 at2 at3 at4 v a b r:=by
 have hV:=getS [Value.string { data:={ toList:=[(32:UInt8),(97:UInt8),(110:UInt8),(100:UInt8),(32:UInt8)] } },Value.string { data:={ toList:=[(38:UInt8)] } }] (Int.toNat v) 7 rfl
 apply Exists.intro
 refine And.intro ?sz ?go
 case go =>
  rw [zaxm]
  exact zadF
 case sz =>
  simp only [ByteArray.size_append,szL,List.length_cons,List.length_nil]
  omega
theorem zaxl (xs:List Int)(at_ d at1 at2 at3 at4 v:Int)(a b:ByteArray)(T:Nat)(hT:T<=2000)(ha:a.size<=T)(hb:b.size<=T)(v0:0<=v)(v1:v<2)(d0:0<=d)(d3:d<=3)(h1:at1<=20):∃ r,ByteArray.size r<=2*T+20/\gE3 ogE3 xs at_ d at1 at2 at3 at4 v a b r:=by
 have hV:=getS [Value.string { data:={ toList:=[(32:UInt8),(97:UInt8),(110:UInt8),(100:UInt8),(32:UInt8)] } },Value.string { data:={ toList:=[(38:UInt8)] } }] (Int.toNat v) 7 rfl
 apply Exists.intro
 refine And.intro ?sz ?go
 case go =>
  rw [zaxk]
  exact zadF
 case sz =>
  simp only [ByteArray.size_append,szL,List.length_cons,List.length_nil]
  omega
theorem zaxj (xs:List Int)(at_ d at1 at2 at3 v:Int)(a:ByteArray)(T:Nat)(hT:T<=2000)(ha:a.size<=T)(v0:0<=v)(v1:v<2)(d0:0<=d)(d3:d<=3)(h1:at1<=20):∃ r,ByteArray.size r<=2*T+20/\gE4 ogE4 xs at_ d at1 at2 at3 v a r:=by
 have hV:=getS [Value.string { data:={ toList:=[(110:UInt8),(111:UInt8),(116:UInt8),(32:UInt8)] } },Value.string { data:={ toList:=[(33:UInt8)] } }] (Int.toNat v) 7 rfl
 apply Exists.intro
 refine And.intro ?sz ?go
 case go =>
  rw [zaxi]
  exact zadF
 case sz =>
  simp only [ByteArray.size_append,szL,List.length_cons,List.length_nil]
  omega
theorem zaxh (xs:List Int)(at_ d at1 at2:Int)(a:ByteArray)(T:Nat)(hT:T<=2000)(ha:a.size<=T)(d0:0<=d)(d3:d<=3)(h1:at1<=20):∃ r,ByteArray.size r<=2*T+20/\gE5 ogE5 xs at_ d at1 at2 a r:=by
 apply Exists.intro
 refine And.intro ?sz ?go
 case go =>
  rw [zaxg]
  exact zadF
 case sz =>
  simp only [ByteArray.size_append,szL,List.length_cons,List.length_nil]
  omega
theorem zaxf (xs:List Int)(at_ d at1 at2:Int)(a:ByteArray)(T:Nat)(hT:T<=2000)(ha:a.size<=T)(d0:0<=d)(d3:d<=3)(h1:at1<=20):∃ r,ByteArray.size r<=2*T+20/\gE6 ogE6 xs at_ d at1 at2 a r:=by
 apply Exists.intro
 refine And.intro ?sz ?go
 case go =>
  rw [zaxe]
  exact zadF
 case sz =>
  simp only [ByteArray.size_append,szL,List.length_cons,List.length_nil]
  omega
theorem zaxd (xs:List Int)(at_ d at1 at2:Int)(a:ByteArray)(T:Nat)(hT:T<=2000)(ha:a.size<=T)(d0:0<=d)(d3:d<=3)(h1:at1<=20):∃ r,ByteArray.size r<=2*T+20/\gE7 ogE7 xs at_ d at1 at2 a r:=by
 apply Exists.intro
 refine And.intro ?sz ?go
 case go =>
  rw [zaxc]
  exact zadF
 case sz =>
  simp only [ByteArray.size_append,szL,List.length_cons,List.length_nil]
  omega
theorem zaxb (xs:List Int)(at_ d at1 at2:Int)(a:ByteArray)(T:Nat)(hT:T<=2000)(ha:a.size<=T)(d0:0<=d)(d3:d<=3)(h1:at1<=20):∃ r,ByteArray.size r<=2*T+20/\gE8 ogE8 xs at_ d at1 at2 a r:=by
 apply Exists.intro
 refine And.intro ?sz ?go
 case go =>
  rw [zaxa]
  exact zadF
 case sz =>
  simp only [ByteArray.size_append,szL,List.length_cons,List.length_nil]
  omega
theorem zax (xs:List Int)(at_ d at1 at2 at3:Int)(a b:ByteArray)(T:Nat)(hT:T<=2000)(ha:a.size<=T)(hb:b.size<=T)(d0:0<=d)(d3:d<=3)(h1:at1<=20):∃ r,ByteArray.size r<=2*T+20/\gE9 ogE9 xs at_ d at1 at2 at3 a b r:=by
 apply Exists.intro
 refine And.intro ?sz ?go
 case go =>
  rw [zaw9]
  exact zadF
 case sz =>
  simp only [ByteArray.size_append,szL,List.length_cons,List.length_nil]
  omega
theorem zavm (xs:List Int)(at_ d at1 at2 at3:Int)(a b:ByteArray)(T:Nat)(hT:T<=2000)(ha:a.size<=T)(hb:b.size<=T)(d0:0<=d)(d3:d<=3)(h1:at1<=20):∃ r,ByteArray.size r<=2*T+20/\gE10 zazv xs at_ d at1 at2 at3 a b r:=by
 apply Exists.intro
 refine And.intro ?sz ?go
 case go =>
  rw [zavl]
  exact zadF
 case sz =>
  simp only [ByteArray.size_append,szL,List.length_cons,List.length_nil]
  omega
theorem zavk (xs:List Int)(at_ d at1 at2:Int)(a:ByteArray)(T:Nat)(hT:T<=2000)(ha:a.size<=T)(d0:0<=d)(d3:d<=3)(h1:at1<=20):∃ r,ByteArray.size r<=2*T+20/\gE11 zazu xs at_ d at1 at2 a r:=by
 apply Exists.intro
 refine And.intro ?sz ?go
 case go =>
  rw [zavj]
  exact zadF
 case sz =>
  simp only [ByteArray.size_append,szL,List.length_cons,List.length_nil]
  omega
theorem zavi (xs:List Int)(at_ d at1 at2:Int)(a:ByteArray)(T:Nat)(hT:T<=2000)(ha:a.size<=T)(d0:0<=d)(d3:d<=3)(h1:at1<=20):∃ r,ByteArray.size r<=2*T+20/\gE12 zazt xs at_ d at1 at2 a r:=by
 apply Exists.intro
 refine And.intro ?sz ?go
 case go =>
  rw [zavh]
  exact zadF
 case sz =>
  simp only [ByteArray.size_append,szL,List.length_cons,List.length_nil]
  omega
theorem zavg (xs:List Int)(at_ d at1 at2:Int)(a:ByteArray)(T:Nat)(hT:T<=2000)(ha:a.size<=T)(d0:0<=d)(d3:d<=3)(h1:at1<=20):∃ r,ByteArray.size r<=2*T+20/\gE13 zazs xs at_ d at1 at2 a r:=by
 apply Exists.intro
 refine And.intro ?sz ?go
 case go =>
  rw [zavf]
  exact zadF
 case sz =>
  simp only [ByteArray.size_append,szL,List.length_cons,List.length_nil]
  omega
theorem zave (xs:List Int)(at_ d at1 at2:Int)(a:ByteArray)(T:Nat)(hT:T<=2000)(ha:a.size<=T)(d0:0<=d)(d3:d<=3)(h1:at1<=20):∃ r,ByteArray.size r<=2*T+20/\gE14 zazr xs at_ d at1 at2 a r:=by
 apply Exists.intro
 refine And.intro ?sz ?go
 case go =>
  rw [zavd]
  exact zadF
 case sz =>
  simp only [ByteArray.size_append,szL,List.length_cons,List.length_nil]
  omega
theorem zavc (xs:List Int)(at_ d at1 at2:Int)(a:ByteArray)(T:Nat)(hT:T<=2000)(ha:a.size<=T)(d0:0<=d)(d3:d<=3)(h1:at1<=20):∃ r,ByteArray.size r<=2*T+20/\gE15 zazq xs at_ d at1 at2 a r:=by
 apply Exists.intro
 refine And.intro ?sz ?go
 case go =>
  rw [zavb]
  exact zadF
 case sz =>
  simp only [ByteArray.size_append,szL,List.length_cons,List.length_nil]
  omega
theorem zava (xs:List Int)(at_ d at1 at2:Int)(a:ByteArray)(T:Nat)(hT:T<=2000)(ha:a.size<=T)(d0:0<=d)(d3:d<=3)(h1:at1<=20):∃ r,ByteArray.size r<=2*T+20/\gE16 zazp xs at_ d at1 at2 a r:=by
 apply Exists.intro
 refine And.intro ?sz ?go
 case go =>
  rw [zav]
  exact zadF
 case sz =>
  simp only [ByteArray.size_append,szL,List.length_cons,List.length_nil]
  omega
theorem zau9 (xs:List Int)(at_ d at1 at2:Int)(a:ByteArray)(T:Nat)(hT:T<=2000)(ha:a.size<=T)(d0:0<=d)(d3:d<=3)(h1:at1<=20):∃ r,ByteArray.size r<=2*T+20/\gE17 zazo xs at_ d at1 at2 a r:=by
 apply Exists.intro
 refine And.intro ?sz ?go
 case go =>
  rw [zau8]
  exact zadF
 case sz =>
  simp only [ByteArray.size_append,szL,List.length_cons,List.length_nil]
  omega
theorem zau7 (xs:List Int)(at_ d at1 at2 at3 at4 v w:Int)(a:ByteArray)(T:Nat)(hT:T<=2000)(ha:a.size<=T)(v0:0<=v)(v1:v<3)(w0:0<=w)(w1:w<4)(d0:0<=d)(d3:d<=3)(h1:at1<=20):∃ r,ByteArray.size r<=2*T+20/\gE18 zazn xs at_ d at1 at2 at3 at4 v w a r:=by
 have hV:=getS [Value.string zaaY,Value.string zacx,Value.string zaa8] (Int.toNat v) 7 rfl
 have hW:=getS [Value.string { data:={ toList:=[(48:UInt8)] } },Value.string { data:={ toList:=[(49:UInt8)] } },Value.string { data:={ toList:=[(51:UInt8)] } },Value.string { data:={ toList:=[(48:UInt8),(48:UInt8),(55:UInt8)] } }] (Int.toNat w) 3 rfl
 apply Exists.intro
 refine And.intro ?sz ?go
 case go =>
  rw [zau6]
  exact zadF
 case sz =>
  simp only [ByteArray.size_append,szL,List.length_cons,List.length_nil]
  omega
theorem zau5 (xs:List Int)(at_ d at1 at2:Int)(a:ByteArray)(T:Nat)(hT:T<=2000)(ha:a.size<=T)(d0:0<=d)(d3:d<=3)(h1:at1<=20):∃ r,ByteArray.size r<=2*T+20/\gE19 zazm xs at_ d at1 at2 a r:=by
 apply Exists.intro
 refine And.intro ?sz ?go
 case go =>
  rw [zau4]
  exact zadF
 case sz =>
  simp only [ByteArray.size_append,szL,List.length_cons,List.length_nil]
  omega
end
end Go.Proofs.YtpofhijgccocpaaGreatDoor
end
section
namespace Go.Proofs.YtpofhijgccocpaaGreatDoor
open Go.AS Go.TP
noncomputable section
noncomputable def X0T:PX:={ X0 with own:=fun f d=>Nat.beq f zai1||Nat.beq f zaxv||(Nat.beq f zalo&&Nat.beq d 4) }
theorem zarr:X0T.Sound:=by
 obtain ⟨a,b,c⟩:=zajj
 exact ⟨a,b,c⟩
noncomputable def XT:WX:=WX.base X0T
theorem zaAQ:XT.Sound := .base zarr
abbrev ExOk (xs:List Int)(d:Int)(T:Nat)(C:Int):Prop:=∀ at_,0<=at_->at_+C<=1000->∃ at' s,at_<=at'/\at'<=at_+C/\s.size<=T/\zaid xs at_ d at' s
theorem zaqF {xs:List Int}{at_ at1 at2 k v:Int}(hn:zajO xs at_ 26 at1 k)(hv:zajO xs at1 3 at2 v):(XLa xs at_ at1 at2 k v).Sound:=zaoh.add (zajG (s:=zabu xs at_ 26 at1 k) (t:=zabu xs at1 3 at2 v) (fun _ _=>hn) (fun _ _=>hv))
theorem zaqE {xs:List Int}{at_ at1 at2 k:Int}{s:ByteArray}(hn:zajO xs at_ 26 at1 k)(hE:zaxG xs at1 at2 s):(XLn xs at_ at1 at2 k s).Sound:=(zaoh.add (zabO (s:=zabu xs at_ 26 at1 k) (fun _ _=>hn))).add (zabO (s:=spNm xs at1 at2 s) (fun _ _=>hE))
theorem zadW {xs:List Int}{at_ d at1 at2 k:Int}{a:ByteArray}(hn:zajO xs at_ 26 at1 k)(hA:zaid xs at1 (d+1) at2 a):(X1a xs at_ d at1 at2 k a).Sound:=(zaoh.add (zabO (s:=zabu xs at_ 26 at1 k) (fun _ _=>hn))).add (zabO (s:=spE xs at1 (d+1) at2 a) (fun _ _=>hA))
theorem zaxF {xs:List Int}{at_ d at1 at2 at3 k n v:Int}{a:ByteArray}(hn:zajO xs at_ 26 at1 k)(hv:zajO xs at2 n at3 v)(hA:zaid xs at1 (d+1) at2 a):(X1b xs at_ d at1 at2 at3 k n v a).Sound:=(zaoh.add (zajG (s:=zabu xs at_ 26 at1 k) (t:=zabu xs at2 n at3 v) (fun _ _=>hn) (fun _ _=>hv))).add (zabO (s:=spE xs at1 (d+1) at2 a) (fun _ _=>hA))
theorem zaxE {xs:List Int}{at_ d at1 at2 at3 at4 k v w:Int}{a:ByteArray}(hn:zajO xs at_ 26 at1 k)(hv:zajO xs at2 3 at3 v)(hw:zajO xs at3 4 at4 w)(hA:zaid xs at1 (d+1) at2 a):(X1c xs at_ d at1 at2 at3 at4 k v w a).Sound:=(zaoh.add (zaxx (s:=zabu xs at_ 26 at1 k) (t:=zabu xs at2 3 at3 v) (u:=zabu xs at3 4 at4 w) (fun _ _=>hn) (fun _ _=>hv) (fun _ _=>hw))).add (zabO (s:=spE xs at1 (d+1) at2 a) (fun _ _=>hA))
theorem zavU {xs:List Int}{at_ d at1 at2 at3 k:Int}{a b:ByteArray}(hn:zajO xs at_ 26 at1 k)(hA:zaid xs at1 (d+1) at2 a)(hB:zaid xs at2 (d+1) at3 b):(X2a xs at_ d at1 at2 at3 k a b).Sound:=(zaoh.add (zabO (s:=zabu xs at_ 26 at1 k) (fun _ _=>hn))).add (zajG (s:=spE xs at1 (d+1) at2 a) (t:=spE xs at2 (d+1) at3 b) (fun _ _=>hA) (fun _ _=>hB))
theorem zano {xs:List Int}{at_ d at1 at2 at3 at4 k n v:Int}{a b:ByteArray}(hn:zajO xs at_ 26 at1 k)(hv:zajO xs at2 n at3 v)(hA:zaid xs at1 (d+1) at2 a)(hB:zaid xs at3 (d+1) at4 b):(X2b xs at_ d at1 at2 at3 at4 k n v a b).Sound:=(zaoh.add (zajG (s:=zabu xs at_ 26 at1 k) (t:=zabu xs at2 n at3 v) (fun _ _=>hn) (fun _ _=>hv))).add (zajG (s:=spE xs at1 (d+1) at2 a) (t:=spE xs at3 (d+1) at4 b) (fun _ _=>hA) (fun _ _=>hB))
attribute [local irreducible] runF in
set_option maxRecDepth 100000 in
theorem zals (xs:List Int)(hx:okXs xs)(d:Int)(T:Nat)(C:Int)(hT:T<=1000)(hT0:64<=2*T+20)(C0:0<=C)(d0:0<=d)(d3:d<=4)(ih:d<=3->ExOk xs (d+1) T C):ExOk xs d (2*T+20) (2*C+4):=by
 intro at_ h0 h1
 obtain ⟨k,at1,k0,k1,a1,a2,hn⟩:=zacr xs at_ 26 hx h0 (by omega) (by decide) (by decide)
 have leafA:(∀ v at2,0<=v->v<3->zajO xs at1 3 at2 v->∃ s,s.size<=2*T+20/\zaid xs at_ d at2 s)->∃ at' s,at_<=at'/\at'<=at_+(2*C+4)/\s.size<=2*T+20/\zaid xs at_ d at' s:=by
  intro h
  obtain ⟨v,at2,v0,v1,b1,b2,hv⟩:=zacr xs at1 3 hx (by omega) (by omega) (by decide) (by decide)
  obtain ⟨s,hs,hE⟩:=h v at2 v0 v1 hv
  exact ⟨at2,s,by omega,by omega,hs,hE⟩
 have leafN:(∀ s at2,zaxG xs at1 at2 s->zaid xs at_ d at2 s)->∃ at' s,at_<=at'/\at'<=at_+(2*C+4)/\s.size<=2*T+20/\zaid xs at_ d at' s:=by
  intro h
  obtain ⟨at2,s,b1,b2,hs,hE⟩:=zasB xs at1 hx (by omega) (by omega)
  exact ⟨at2,s,by omega,by omega,by omega,h s at2 hE⟩
 by_cases hd:d>3
 · by_cases hk:k % 6=0
   · refine leafA fun v at2 v0 v1 hv => ?_
     obtain ⟨r,hr,g⟩:=zauI xs at_ d at1 at2 k v k0 k1 v0 v1 hd hk
     exact ⟨r,by omega,exFn (X:=XLa xs at_ at1 at2 k v) (zaqF hn hv) rfl g⟩
   · refine leafN fun s at2 hE => ?_
     exact exFn (X:=XLn xs at_ at1 at2 k s) (zaqE hn hE) rfl (zauA xs at_ d at1 at2 k s k0 k1 hd hk)
 have hd:d<=3:=by omega
 by_cases ha:at1>20
 · by_cases hk:k % 6=0
   · refine leafA fun v at2 v0 v1 hv => ?_
     obtain ⟨r,hr,g⟩:=zauG xs at_ d at1 at2 k v k0 k1 v0 v1 hd ha hk
     exact ⟨r,by omega,exFn (X:=XLa xs at_ at1 at2 k v) (zaqF hn hv) rfl g⟩
   · refine leafN fun s at2 hE => ?_
     exact exFn (X:=XLn xs at_ at1 at2 k s) (zaqE hn hE) rfl (zauy xs at_ d at1 at2 k s k0 k1 hd ha hk)
 have ha:at1<=20:=by omega
 by_cases hk:k=20
 · refine leafA fun v at2 v0 v1 hv => ?_
   obtain ⟨r,hr,g⟩:=zauE xs at_ d at1 at2 k v k0 k1 v0 v1 hd ha hk
   exact ⟨r,by omega,exFn (X:=XLa xs at_ at1 at2 k v) (zaqF hn hv) rfl g⟩
 by_cases hk:k>20
 · refine leafN fun s at2 hE => ?_
   exact exFn (X:=XLn xs at_ at1 at2 k s) (zaqE hn hE) rfl (zauw xs at_ d at1 at2 k s k0 k1 hd ha hk)
 have ih:=ih hd
 obtain ⟨at2,a,b1,b2,ha2,hA⟩:=ih at1 (by omega) (by omega)
 have one:(∃ r,ByteArray.size r<=2*T+20/\zaid xs at_ d at2 r)->∃ at' s,at_<=at'/\at'<=at_+(2*C+4)/\s.size<=2*T+20/\zaid xs at_ d at' s:=fun ⟨r,hr,hE⟩=>⟨at2,r,by omega,by omega,hr,hE⟩
 have hk:k=0∨k=1∨k=2∨k=3∨k=4∨k=5∨k=6∨k=7∨k=8∨k=9∨k=10∨k=11∨k=12∨k=13∨k=14∨k=15∨k=16∨k=17∨k=18∨k=19:=by omega
 rcases hk with rfl | rfl | rfl | rfl | rfl | rfl | rfl | rfl | rfl | rfl | rfl | rfl | rfl | rfl | rfl | rfl | rfl | rfl | rfl | rfl
 · obtain ⟨v,at3,v0,v1,c1,c2,hv⟩:=zacr xs at2 3 hx (by omega) (by omega) (by decide) (by decide)
   obtain ⟨at4,b,e1,e2,hb2,hB⟩:=ih at3 (by omega) (by omega)
   obtain ⟨r,hr,g⟩:=zaxr xs at_ d at1 at2 at3 at4 v a b T (by omega) ha2 hb2 v0 v1 d0 hd ha
   exact ⟨at4,r,by omega,by omega,hr,exFn (X:=X2b xs at_ d at1 at2 at3 at4 0 3 v a b) (zano hn hv hA hB) rfl g⟩
 · obtain ⟨v,at3,v0,v1,c1,c2,hv⟩:=zacr xs at2 3 hx (by omega) (by omega) (by decide) (by decide)
   obtain ⟨at4,b,e1,e2,hb2,hB⟩:=ih at3 (by omega) (by omega)
   obtain ⟨r,hr,g⟩:=zaxp xs at_ d at1 at2 at3 at4 v a b T (by omega) ha2 hb2 v0 v1 d0 hd ha
   exact ⟨at4,r,by omega,by omega,hr,exFn (X:=X2b xs at_ d at1 at2 at3 at4 1 3 v a b) (zano hn hv hA hB) rfl g⟩
 · obtain ⟨v,at3,v0,v1,c1,c2,hv⟩:=zacr xs at2 2 hx (by omega) (by omega) (by decide) (by decide)
   obtain ⟨at4,b,e1,e2,hb2,hB⟩:=ih at3 (by omega) (by omega)
   obtain ⟨r,hr,g⟩:=zaxn xs at_ d at1 at2 at3 at4 v a b T (by omega) ha2 hb2 v0 v1 d0 hd ha
   exact ⟨at4,r,by omega,by omega,hr,exFn (X:=X2b xs at_ d at1 at2 at3 at4 2 2 v a b) (zano hn hv hA hB) rfl g⟩
 · obtain ⟨v,at3,v0,v1,c1,c2,hv⟩:=zacr xs at2 2 hx (by omega) (by omega) (by decide) (by decide)
   obtain ⟨at4,b,e1,e2,hb2,hB⟩:=ih at3 (by omega) (by omega)
   obtain ⟨r,hr,g⟩:=zaxl xs at_ d at1 at2 at3 at4 v a b T (by omega) ha2 hb2 v0 v1 d0 hd ha
   exact ⟨at4,r,by omega,by omega,hr,exFn (X:=X2b xs at_ d at1 at2 at3 at4 3 2 v a b) (zano hn hv hA hB) rfl g⟩
 · obtain ⟨v,at3,v0,v1,c1,c2,hv⟩:=zacr xs at2 2 hx (by omega) (by omega) (by decide) (by decide)
   obtain ⟨r,hr,g⟩:=zaxj xs at_ d at1 at2 at3 v a T (by omega) ha2 v0 v1 d0 hd ha
   exact ⟨at3,r,by omega,by omega,hr,exFn (X:=X1b xs at_ d at1 at2 at3 4 2 v a) (zaxF hn hv hA) rfl g⟩
 · obtain ⟨r,hr,g⟩:=zaxh xs at_ d at1 at2 a T (by omega) ha2 d0 hd ha
   exact one ⟨r,hr,exFn (X:=X1a xs at_ d at1 at2 5 a) (zadW hn hA) rfl g⟩
 · obtain ⟨r,hr,g⟩:=zaxf xs at_ d at1 at2 a T (by omega) ha2 d0 hd ha
   exact one ⟨r,hr,exFn (X:=X1a xs at_ d at1 at2 6 a) (zadW hn hA) rfl g⟩
 · obtain ⟨r,hr,g⟩:=zaxd xs at_ d at1 at2 a T (by omega) ha2 d0 hd ha
   exact one ⟨r,hr,exFn (X:=X1a xs at_ d at1 at2 7 a) (zadW hn hA) rfl g⟩
 · obtain ⟨r,hr,g⟩:=zaxb xs at_ d at1 at2 a T (by omega) ha2 d0 hd ha
   exact one ⟨r,hr,exFn (X:=X1a xs at_ d at1 at2 8 a) (zadW hn hA) rfl g⟩
 · obtain ⟨at3,b,e1,e2,hb2,hB⟩:=ih at2 (by omega) (by omega)
   obtain ⟨r,hr,g⟩:=zax xs at_ d at1 at2 at3 a b T (by omega) ha2 hb2 d0 hd ha
   exact ⟨at3,r,by omega,by omega,hr,exFn (X:=X2a xs at_ d at1 at2 at3 9 a b) (zavU hn hA hB) rfl g⟩
 · obtain ⟨at3,b,e1,e2,hb2,hB⟩:=ih at2 (by omega) (by omega)
   obtain ⟨r,hr,g⟩:=zavm xs at_ d at1 at2 at3 a b T (by omega) ha2 hb2 d0 hd ha
   exact ⟨at3,r,by omega,by omega,hr,exFn (X:=X2a xs at_ d at1 at2 at3 10 a b) (zavU hn hA hB) rfl g⟩
 · obtain ⟨r,hr,g⟩:=zavk xs at_ d at1 at2 a T (by omega) ha2 d0 hd ha
   exact one ⟨r,hr,exFn (X:=X1a xs at_ d at1 at2 11 a) (zadW hn hA) rfl g⟩
 · obtain ⟨r,hr,g⟩:=zavi xs at_ d at1 at2 a T (by omega) ha2 d0 hd ha
   exact one ⟨r,hr,exFn (X:=X1a xs at_ d at1 at2 12 a) (zadW hn hA) rfl g⟩
 · obtain ⟨r,hr,g⟩:=zavg xs at_ d at1 at2 a T (by omega) ha2 d0 hd ha
   exact one ⟨r,hr,exFn (X:=X1a xs at_ d at1 at2 13 a) (zadW hn hA) rfl g⟩
 · obtain ⟨r,hr,g⟩:=zave xs at_ d at1 at2 a T (by omega) ha2 d0 hd ha
   exact one ⟨r,hr,exFn (X:=X1a xs at_ d at1 at2 14 a) (zadW hn hA) rfl g⟩
 · obtain ⟨r,hr,g⟩:=zavc xs at_ d at1 at2 a T (by omega) ha2 d0 hd ha
   exact one ⟨r,hr,exFn (X:=X1a xs at_ d at1 at2 15 a) (zadW hn hA) rfl g⟩
 · obtain ⟨r,hr,g⟩:=zava xs at_ d at1 at2 a T (by omega) ha2 d0 hd ha
   exact one ⟨r,hr,exFn (X:=X1a xs at_ d at1 at2 16 a) (zadW hn hA) rfl g⟩
 · obtain ⟨r,hr,g⟩:=zau9 xs at_ d at1 at2 a T (by omega) ha2 d0 hd ha
   exact one ⟨r,hr,exFn (X:=X1a xs at_ d at1 at2 17 a) (zadW hn hA) rfl g⟩
 · obtain ⟨v,at3,v0,v1,c1,c2,hv⟩:=zacr xs at2 3 hx (by omega) (by omega) (by decide) (by decide)
   obtain ⟨w,at4,w0,w1,e1,e2,hw⟩:=zacr xs at3 4 hx (by omega) (by omega) (by decide) (by decide)
   obtain ⟨r,hr,g⟩:=zau7 xs at_ d at1 at2 at3 at4 v w a T (by omega) ha2 v0 v1 w0 w1 d0 hd ha
   exact ⟨at4,r,by omega,by omega,hr,exFn (X:=X1c xs at_ d at1 at2 at3 at4 18 v w a) (zaxE hn hv hw hA) rfl g⟩
 · obtain ⟨r,hr,g⟩:=zau5 xs at_ d at1 at2 a T (by omega) ha2 d0 hd ha
   exact one ⟨r,hr,exFn (X:=X1a xs at_ d at1 at2 19 a) (zadW hn hA) rfl g⟩
theorem zaAG (xs:List Int)(hx:okXs xs):ExOk xs 4 64 4:=zals xs hx 4 22 0 (by decide) (by decide) (by decide) (by decide) (by decide) (fun h=>absurd h (by decide))
theorem zaAH (xs:List Int)(hx:okXs xs):ExOk xs 3 148 12:=zals xs hx 3 64 4 (by decide) (by decide) (by decide) (by decide) (by decide) (fun _=>zaAG xs hx)
theorem zaAI (xs:List Int)(hx:okXs xs):ExOk xs 2 316 28:=zals xs hx 2 148 12 (by decide) (by decide) (by decide) (by decide) (by decide) (fun _=>zaAH xs hx)
theorem zaAJ (xs:List Int)(hx:okXs xs):ExOk xs 1 652 60:=zals xs hx 1 316 28 (by decide) (by decide) (by decide) (by decide) (by decide) (fun _=>zaAI xs hx)
theorem zaAK (xs:List Int)(hx:okXs xs):ExOk xs 0 1324 124:=zals xs hx 0 652 60 (by decide) (by decide) (by decide) (by decide) (by decide) (fun _=>zaAJ xs hx)
def zatL (os:Orc)(xs:List Int)(at':Int)(r:ByteArray):Prop:=runF (XT.add zabT (Sp.con [spE xs 0 0 at' r])) 12 zai1 (fn zai1) (code zai1) os 0 [] [.lst false 1 (xs.map i0)] .nil ⟨s0 r, .nil,[]⟩
end
end Go.Proofs.YtpofhijgccocpaaGreatDoor
end
section
namespace Go.Proofs.YtpofhijgccocpaaGreatDoor
open Go Go.AS Go.TP
theorem zamW (xs:List Int)(at':Int)(r:ByteArray):zatL (Orc.z) xs at' r=(let z1:=[eR 1048577 [0,0] 2 [AV.agg [AV.lst false 1 (List.map i0 xs),i0 0]]]; U1 [AV.ptr 1048577 [0,0] 0 0,i0 0] z1 (Wk (s0 r) (s0 r)/\SameH (hpL []) (hpL []))):=by kernel_rfl
end Go.Proofs.YtpofhijgccocpaaGreatDoor
end
section
namespace Go.Proofs.YtpofhijgccocpaaGreatDoor
open Go.AS Go.TP
noncomputable section
attribute [local irreducible] runF in
set_option maxRecDepth 100000 in
theorem zarg (xs:List Int)(hx:okXs xs):∃ s,ByteArray.size s<=1324/\F zai1 [.lst false 1 (xs.map i0)] (s0 s):=by
 obtain ⟨at',s,_,_,hs,hE⟩:=zaAK xs hx 0 (by decide) (by decide)
 refine ⟨s,hs,?_⟩
 refine zadS (X:=XT.add zabT (Sp.con [spE xs 0 0 at' s])) (d:=12) (os:=Orc.z) (fz:=0) (fc:=[]) (zaAQ.add (zabO (s:=spE xs 0 0 at' s) (fun _ _=>hE))) (f:=zai1) (fn:=fn zai1) (code:=code zai1) (fnOk zai1 (by kernel_rfl)) (show (fn zai1).body=some (code zai1) by kernel_rfl) (by kernel_rfl) ?_
 show zatL Orc.z xs at' s
 rw [zamW]
 exact ⟨(),⟨trivial, .refl _,rfl⟩, .refl _, .rfl⟩
end
end Go.Proofs.YtpofhijgccocpaaGreatDoor
end
section
namespace Go.Proofs.YtpofhijgccocpaaGreatDoor
open Go.AS Go.TP
noncomputable section
mutual
def encN:Nd->AV
 | .mk k a n t ks => .agg [i0 k,i0 a,i0 n,s0 t, .lst false 5 (encL ks)]
def encL:List Nd->List AV
 | []=>[]
 | n::r=>encN n::encL r
end
def encP (n:Nd):AV := .agg [i0 n.kind,i0 n.at_,i0 n.num,s0 n.text, .lst false 5 (encL n.kids)]
theorem zalz (n:Nd):encP n=encN n:=by cases n; rfl
end
end Go.Proofs.YtpofhijgccocpaaGreatDoor
end
section
namespace Go.Proofs.YtpofhijgccocpaaGreatDoor
open Go Go.AS Go.TP
end Go.Proofs.YtpofhijgccocpaaGreatDoor
end
section
namespace Go.Proofs.YtpofhijgccocpaaGreatDoor
open Go.AS Go.TP
noncomputable section
end
end Go.Proofs.YtpofhijgccocpaaGreatDoor
end
section
namespace Go.Proofs.YtpofhijgccocpaaGreatDoor
open Go Go.AS Go.TP
end Go.Proofs.YtpofhijgccocpaaGreatDoor
end
section
namespace Go.Proofs.YtpofhijgccocpaaGreatDoor
open Go Go.AS Go.TP
noncomputable section
end
end Go.Proofs.YtpofhijgccocpaaGreatDoor
end
section
namespace Go.Proofs.YtpofhijgccocpaaGreatDoor
open Go.AS Go.TP
noncomputable section
def zazT (os:Orc)(w:ByteArray)(v:Int):Prop:=gF XB [zavy] zavy os [s0 w] (i0 v)
end
end Go.Proofs.YtpofhijgccocpaaGreatDoor
end
section
namespace Go.Proofs.YtpofhijgccocpaaGreatDoor
open Go Go.AS Go.TP
def zasq:Orc:=Orc.s (Orc.t Orc.z) (Orc.s (Orc.t Orc.z) (Orc.s Orc.z (Orc.s (Orc.t Orc.z) (Orc.s (Orc.t Orc.z) (Orc.s (Orc.t Orc.z) (Orc.s (Orc.t Orc.z) (Orc.s (Orc.t Orc.z) (Orc.s Orc.z (Orc.s (Orc.t Orc.z) (Orc.s (Orc.t Orc.z) (Orc.s Orc.z Orc.z)))))))))))
theorem zaqc (w:ByteArray)(v:Int):zazT zasq w v=(let z1:=(ByteArray.toList w==ByteArray.toList zaaf); let z2:=(ByteArray.toList w==ByteArray.toList zaai); let z3:=(ByteArray.toList w==ByteArray.toList zaam); let z4:=(ByteArray.toList w==ByteArray.toList zaaX); let z5:=(ByteArray.toList w==ByteArray.toList zaa3); let z6:=(ByteArray.toList w==ByteArray.toList zaaY); let z7:=(ByteArray.toList w==ByteArray.toList zaa8); let z8:=(ByteArray.toList w==ByteArray.toList zabC); let z9:=(ByteArray.toList w==ByteArray.toList zabZ); let z10:=(ByteArray.toList w==ByteArray.toList zacx); let z11:=(ByteArray.toList w==ByteArray.toList wAll); let z12:=(ByteArray.toList w==ByteArray.toList wAnc); (z11=true->Yt (Wk (i0 1) (i0 v)/\SameH (hpL []) (hpL [])))/\(z11=false->(z8=true->Yt (Wk (i0 1) (i0 v)/\SameH (hpL []) (hpL [])))/\(z8=false->(z3=true->Wk (i0 1) (i0 v)/\SameH (hpL []) (hpL []))/\(z3=false->(z2=true->Yt (Wk (i0 2) (i0 v)/\SameH (hpL []) (hpL [])))/\(z2=false->(z1=true->Yt (Wk (i0 2) (i0 v)/\SameH (hpL []) (hpL [])))/\(z1=false->(z12=true->Yt (Wk (i0 2) (i0 v)/\SameH (hpL []) (hpL [])))/\(z12=false->(z9=true->Yt (Wk (i0 2) (i0 v)/\SameH (hpL []) (hpL [])))/\(z9=false->(z4=true->Yt (Wk (i0 2) (i0 v)/\SameH (hpL []) (hpL [])))/\(z4=false->(z5=true->Wk (i0 2) (i0 v)/\SameH (hpL []) (hpL []))/\(z5=false->(z6=true->Yt (Wk (i0 3) (i0 v)/\SameH (hpL []) (hpL [])))/\(z6=false->(z10=true->Yt (Wk (i0 3) (i0 v)/\SameH (hpL []) (hpL [])))/\(z10=false->(z7=true->Wk (i0 3) (i0 v)/\SameH (hpL []) (hpL []))/\(z7=false->Wk (i0 0) (i0 v)/\SameH (hpL []) (hpL [])))))))))))))):=by kernel_rfl
end Go.Proofs.YtpofhijgccocpaaGreatDoor
end
section
namespace Go.Proofs.YtpofhijgccocpaaGreatDoor
open Go.AS Go.TP
noncomputable section
theorem zalg (w:ByteArray):zaaH w=if w=wAll∨w=zabC∨w=zaam then 1 else if w=zaai∨w=zaaf∨w=wAnc∨w=zabZ∨w=zaaX∨w=zaa3 then 2 else if w=zaaY∨w=zacx∨w=zaa8 then 3 else 0:=rfl
theorem zaqd (w:ByteArray):zazT zasq w (zaaH w):=by
 rw [zaqc,zalg,zaae w wAll,zaae w zabC,zaae w zaam,zaae w zaai,zaae w zaaf,zaae w wAnc,zaae w zabZ,zaae w zaaX,zaae w zaa3,zaae w zaaY,zaae w zacx,zaae w zaa8]
 refine ⟨fun p => ?_,fun n0 => ?_⟩
 · have p:=of_decide_eq_true p; rw [if_pos (.inl p)]; exact ⟨rfl, .refl _, .rfl⟩
 replace n0:=of_decide_eq_false n0
 refine ⟨fun p => ?_,fun n1 => ?_⟩
 · have p:=of_decide_eq_true p; rw [if_pos (.inr (.inl p))]; exact ⟨rfl, .refl _, .rfl⟩
 replace n1:=of_decide_eq_false n1
 refine ⟨fun p => ?_,fun n2 => ?_⟩
 · have p:=of_decide_eq_true p; rw [if_pos (.inr (.inr p))]; exact ⟨.refl _, .rfl⟩
 replace n2:=of_decide_eq_false n2
 refine ⟨fun p => ?_,fun n3 => ?_⟩
 · have p:=of_decide_eq_true p; rw [if_neg (fun q=>q.elim n0 (fun q=>q.elim n1 n2))]; rw [if_pos (.inl p)]; exact ⟨rfl, .refl _, .rfl⟩
 replace n3:=of_decide_eq_false n3
 refine ⟨fun p => ?_,fun n4 => ?_⟩
 · have p:=of_decide_eq_true p; rw [if_neg (fun q=>q.elim n0 (fun q=>q.elim n1 n2))]; rw [if_pos (.inr (.inl p))]; exact ⟨rfl, .refl _, .rfl⟩
 replace n4:=of_decide_eq_false n4
 refine ⟨fun p => ?_,fun n5 => ?_⟩
 · have p:=of_decide_eq_true p; rw [if_neg (fun q=>q.elim n0 (fun q=>q.elim n1 n2))]; rw [if_pos (.inr (.inr (.inl p)))]; exact ⟨rfl, .refl _, .rfl⟩
 replace n5:=of_decide_eq_false n5
 refine ⟨fun p => ?_,fun n6 => ?_⟩
 · have p:=of_decide_eq_true p; rw [if_neg (fun q=>q.elim n0 (fun q=>q.elim n1 n2))]; rw [if_pos (.inr (.inr (.inr (.inl p))))]; exact ⟨rfl, .refl _, .rfl⟩
 replace n6:=of_decide_eq_false n6
 refine ⟨fun p => ?_,fun n7 => ?_⟩
 · have p:=of_decide_eq_true p; rw [if_neg (fun q=>q.elim n0 (fun q=>q.elim n1 n2))]; rw [if_pos (.inr (.inr (.inr (.inr (.inl p)))))]; exact ⟨rfl, .refl _, .rfl⟩
 replace n7:=of_decide_eq_false n7
 refine ⟨fun p => ?_,fun n8 => ?_⟩
 · have p:=of_decide_eq_true p; rw [if_neg (fun q=>q.elim n0 (fun q=>q.elim n1 n2))]; rw [if_pos (.inr (.inr (.inr (.inr (.inr p)))))]; exact ⟨.refl _, .rfl⟩
 replace n8:=of_decide_eq_false n8
 refine ⟨fun p => ?_,fun n9 => ?_⟩
 · have p:=of_decide_eq_true p; rw [if_neg (fun q=>q.elim n0 (fun q=>q.elim n1 n2))]; rw [if_neg (fun q=>q.elim n3 (fun q=>q.elim n4 (fun q=>q.elim n5 (fun q=>q.elim n6 (fun q=>q.elim n7 n8)))))]; rw [if_pos (.inl p)]; exact ⟨rfl, .refl _, .rfl⟩
 replace n9:=of_decide_eq_false n9
 refine ⟨fun p => ?_,fun n10 => ?_⟩
 · have p:=of_decide_eq_true p; rw [if_neg (fun q=>q.elim n0 (fun q=>q.elim n1 n2))]; rw [if_neg (fun q=>q.elim n3 (fun q=>q.elim n4 (fun q=>q.elim n5 (fun q=>q.elim n6 (fun q=>q.elim n7 n8)))))]; rw [if_pos (.inr (.inl p))]; exact ⟨rfl, .refl _, .rfl⟩
 replace n10:=of_decide_eq_false n10
 refine ⟨fun p => ?_,fun n11 => ?_⟩
 · have p:=of_decide_eq_true p; rw [if_neg (fun q=>q.elim n0 (fun q=>q.elim n1 n2))]; rw [if_neg (fun q=>q.elim n3 (fun q=>q.elim n4 (fun q=>q.elim n5 (fun q=>q.elim n6 (fun q=>q.elim n7 n8)))))]; rw [if_pos (.inr (.inr p))]; exact ⟨.refl _, .rfl⟩
 replace n11:=of_decide_eq_false n11
 rw [if_neg (fun q=>q.elim n0 (fun q=>q.elim n1 n2))]; rw [if_neg (fun q=>q.elim n3 (fun q=>q.elim n4 (fun q=>q.elim n5 (fun q=>q.elim n6 (fun q=>q.elim n7 n8)))))]; rw [if_neg (fun q=>q.elim n9 (fun q=>q.elim n10 n11))]; exact ⟨.refl _, .rfl⟩
set_option maxRecDepth 100000 in
theorem zan6 (w:ByteArray):F zavy [s0 w] (i0 (zaaH w)):=F_ok zabg rfl (by kernel_rfl) (by kernel_rfl) (by kernel_rfl) (zaqd w)
end
end Go.Proofs.YtpofhijgccocpaaGreatDoor
end
section
namespace Go.TP
open Go.AS
def okT:List Tk->Prop
 | []=>False
 | t::r=>t.text.size<=600/\match r with
  | []=>t.kind=11
  | _::_=>t.kind≠11/\okT r
theorem zakM {ts:List Tk}(h:okT ts):ts≠[]:=by rintro rfl; exact h
theorem zapB {t:Tk}{r:List Tk}(h:okT (t::r))(hk:t.kind≠11):okT r:=by
 unfold okT at h
 cases r with
 | nil=>exact absurd h.2 hk
 | cons u r=>exact h.2.2
theorem zapA {t:Tk}{r:List Tk}(h:okT (t::r)):t.text.size<=600:=by unfold okT at h; exact h.1
theorem zagw {t:Tk}{r:List Tk}(hk:t.kind≠11):zaas (t::r)=r:=if_neg hk
theorem zaay {ts:List Tk}(h:okT ts):okT (zaas ts)/\(zaas ts).length<=ts.length:=by
 cases ts with
 | nil=>exact h.elim
 | cons t r =>
  show okT (if t.kind=11 then t::r else r)/\(if t.kind=11 then t::r else r).length<=(t::r).length
  by_cases hk:t.kind=11
  · rw [if_pos hk]; exact ⟨h,Nat.le_refl _⟩
  · rw [if_neg hk]; exact ⟨zapB h hk,by rw [List.length_cons]; omega⟩
def Inv (ts:List Tk)(r:R):Prop:=okT r.ts/\r.ts.length<=ts.length
theorem Inv.refl {ts:List Tk}{n:Nd}{e:Option (Int × Int)}(h:okT ts):Inv ts ⟨n,e,ts⟩:=⟨h,Nat.le_refl _⟩
theorem Inv.of {ts us:List Tk}{r:R}(h:Inv us r)(hl:us.length<=ts.length):Inv ts r:=⟨h.1,Nat.le_trans h.2 hl⟩
theorem zagg {part:List Tk->R}(hp:∀ ts,okT ts->Inv ts (part ts))(km:Int->Int):∀ (n:Nat) (r:R),okT r.ts->Inv r.ts (zac2 part km n r)
 | 0,r,h=>by rw [zac2]; exact ⟨h,Nat.le_refl _⟩
 | n+1,r,h=>by
  rw [zac2]
  split
  · have h1:=zaay h
    have h2:=hp _ h1.1
    exact (zagg hp km n ⟨.mk (km (zaac r.ts).kind) (zaac r.ts).at_ 0 ByteArray.empty [r.n,(part (zaas r.ts)).n],(part (zaas r.ts)).e,(part (zaas r.ts)).ts⟩ h2.1).of (Nat.le_trans h2.2 h1.2)
  · exact ⟨h,Nat.le_refl _⟩
theorem zab {k:Int}{ts:List Tk}(h:okT ts):okT (zaaV k ts).2/\(zaaV k ts).2.length<=ts.length:=by
 unfold zaaV
 split
 · exact zaay h
 · exact ⟨h,Nat.le_refl _⟩
theorem zacl {d:Int}{t:Tk}{n0:Nd}{ts us:List Tk}{f:Int->List Tk->R}(h:okT us)(hl:us.length<=ts.length)(hf:Inv ts (f (d+1) us)):Inv ts (zabI d t n0 us f):=by
 unfold zabI
 split
 · exact ⟨h,hl⟩
 · exact hf
theorem zabx:∀ (f:Nat) (lv:Lv) (d:Int) (ts:List Tk),okT ts->Inv ts (PF f lv d ts)
 | 0,_,_,ts,h=>by rw [PF]; exact .refl h
 | f+1, .expr,d,ts,h=>by
  rw [PF]
  have h1:=zabx f .term d ts h
  exact (zagg (fun us hu=>zabx f .term d us hu) kmE f _ h1.1).of h1.2
 | f+1, .term,d,ts,h=>by
  rw [PF]
  have h1:=zabx f .part d ts h
  exact (zagg (fun us hu=>zabx f .part d us hu) kmT f _ h1.1).of h1.2
 | f+1, .part,d,ts,h=>by
  rw [PF]
  simp only
  split
  · exact zabx f .ranged d ts h
  · have h1:=zaay h
    exact zacl h1.1 h1.2 ((zabx f .part (d+1) _ h1.1).of h1.2)
 | f+1, .ranged,d,ts,h=>by
  rw [PF]
  simp only
  have h1:=zaay h
  split
  · exact zacl h1.1 h1.2 ((zabx f .atom (d+1) _ h1.1).of h1.2)
  · have h2:=zabx f .atom d ts h
    have second:∀ (d:Int) (us:List Tk) (k a:Int) (n:Nd) (m:Bool),okT us->us.length<=ts.length->Inv ts (zacn (PF f .atom d) k a n m us):=fun d us k a n m hu hl=>by
      unfold zacn
      split
      · exact ⟨hu,hl⟩
      · exact (zabx f .atom d us hu).of hl
    have h3:=zaay h2.1
    split
    · exact h2
    · split
      · exact zacl h3.1 (Nat.le_trans h3.2 h2.2) (second _ _ _ _ _ _ h3.1 (Nat.le_trans h3.2 h2.2))
      · split
        · exact second _ _ _ _ _ _ h3.1 (Nat.le_trans h3.2 h2.2)
        · exact h2
 | f+1, .atom,d,ts,h=>by
  rw [PF]
  simp only
  have h1:=zaay h
  have h3:=zaay h1.1
  split
  · refine zacl h1.1 h1.2 ?_
    have h2:=zabx f .expr (d+1) _ h1.1
    split
    · exact h2.of h1.2
    · have h4:=zab (k:=3) h2.1
      exact ⟨h4.1,Nat.le_trans h4.2 (Nat.le_trans h2.2 h1.2)⟩
  · split
    · split
      · unfold zavM
        simp only
        split
        · exact ⟨h1.1,h1.2⟩
        · refine zacl h3.1 (Nat.le_trans h3.2 h1.2) ?_
          have l3:=Nat.le_trans h3.2 h1.2
          split
          · have h4:=zab (k:=3) h3.1
            exact ⟨h4.1,Nat.le_trans h4.2 l3⟩
          · have h2:=zabx f .expr (d+1) _ h3.1
            have l2:=Nat.le_trans h2.2 l3
            split
            · exact ⟨h2.1,l2⟩
            · split
              · have h4:=zab (k:=3) h2.1
                exact ⟨h4.1,Nat.le_trans h4.2 l2⟩
              · have h4:=zab (k:=4) h2.1
                have l4:=Nat.le_trans h4.2 l2
                split
                · exact ⟨h4.1,l4⟩
                · split
                  · exact ⟨h4.1,l4⟩
                  · have h5:=zaay h4.1
                    have h6:=zab (k:=3) h5.1
                    exact ⟨h6.1,Nat.le_trans h6.2 (Nat.le_trans h5.2 l4)⟩
      · split
        · exact ⟨h1.1,h1.2⟩
        · exact ⟨h1.1,h1.2⟩
    · exact ⟨h,Nat.le_refl _⟩
end Go.TP
namespace Go.TP
end Go.TP
end
section
namespace Go.Proofs.YtpofhijgccocpaaGreatDoor
open Go.AS Go.TP
noncomputable section
theorem zagd (n:Nd):encL [n]=[encP n]:=by rw [zalz]; rfl
theorem zalA (n m:Nd):encL [n,m]=[encP n,encP m]:=by rw [zalz,zalz]; rfl
end
end Go.Proofs.YtpofhijgccocpaaGreatDoor
end
section
namespace Go.Proofs.YtpofhijgccocpaaGreatDoor
open Go.AS Go.TP
noncomputable section
end
end Go.Proofs.YtpofhijgccocpaaGreatDoor
end
section
namespace Go.Proofs.YtpofhijgccocpaaGreatDoor
open Go.AS Go.TP
noncomputable section
end
end Go.Proofs.YtpofhijgccocpaaGreatDoor
end
section
namespace Go.Proofs.YtpofhijgccocpaaGreatDoor
open Go.AS Go.TP
noncomputable section
inductive ParR where
 | long
 | bad (k a:Int)
 | ok (n:Nd)
def zamy (r:R):ParR:=match r.e with
 | some (k,a) => .bad k a
 | none=>if (zaac r.ts).kind=11 then .ok r.n else .bad 15 (zaac r.ts).at_
def parL:LexR->ParR
 | .long => .long
 | .bad i => .bad 15 i
 | .ok ts=>zamy (PF (5*ts.length+5) .expr 0 ts)
def zakE (s:ByteArray):ParR:=parL (lexS s)
end
end Go.Proofs.YtpofhijgccocpaaGreatDoor
end
section
namespace Go.Proofs.YtpofhijgccocpaaGreatDoor
open Go.AS Go.TP
noncomputable section
theorem FOk.drop {P:Program}{gl:Nat->Option AV}{f:FuncId}{xs:List AV}{x:AV}{σ:Hp}{ws:List Nat}(h:FOk P gl f xs .nil ⟨x,σ,ws⟩):FOk P gl f xs .nil ⟨x, .nil,[]⟩:=by
 intro E w vals hg hh hf hn hv
 refine (h E w vals hg hh hf hn hv).imp ?_
 rintro v w' ⟨os,q,E',rfl,k1,k2,k3,k4⟩
 have no:∀ {b:Nat} {F:Env},¬Own F .nil b:=fun ⟨k,e,L,hk,_⟩=>by rw [zaaz] at hk; cases hk
 exact ⟨os,_,E',rfl,⟨fun _ _=>rfl,fun l e he=>⟨e,he⟩⟩,k2,⟨k3.imm,fun l e he=>(by rw [zaaz] at he; cases he),fun b hb=>absurd hb no,fun l _ e _ _ _ _ he=>(by rw [zaaz] at he; cases he)⟩,⟨k4.le,k4.os,k4.tape,k4.output,k4.size,k4.kept,fun b hb=>absurd hb no,k4.mNew⟩⟩
abbrev zalq:Nat:=11
end
end Go.Proofs.YtpofhijgccocpaaGreatDoor
end
section
namespace Go.Proofs.YtpofhijgccocpaaGreatDoor
abbrev zabd:Nat:=36
abbrev zabe:Nat:=9
abbrev zabG:Nat:=77
abbrev zabB:Nat:=39
abbrev fXIs:Nat:=38
abbrev zaaq:Nat:=127
abbrev zabp:Nat:=146
abbrev zaan:Nat:=37
abbrev zaaU:Nat:=76
abbrev zaaR:Nat:=107
abbrev zaat:Nat:=126
abbrev zaab:Nat:=139
abbrev zaa9:Nat:=48
abbrev zaag:Nat:=148
abbrev zalm:Nat:=75
abbrev zaaA:Nat:=147
abbrev fXCut:Nat:=40
end Go.Proofs.YtpofhijgccocpaaGreatDoor
end
section
namespace Go.Proofs.YtpofhijgccocpaaGreatDoor
open Go.AS Go.TP
noncomputable section
abbrev rgV (k a n:Int)(t:ByteArray)(ks:List AV):AV := .agg [i0 k,i0 a,i0 n,s0 t, .lst false 1 ks]
abbrev xSl (c n:Nat):AV := .slc 1048577 [0,c] 0 n
abbrev xRow (ts:List AV)(k d:Int)(o:AV)(bad pl:Int):AV := .agg [.lst false 3 ts,i0 k,i0 d,o,i0 bad,i0 pl]
def xHp (c:Nat)(ts:List AV)(k d:Int)(xs:List AV)(bad pl:Int):Hp:=hpL [(1048577,⟨[0,c], .row true 5 xs⟩),(1048578,⟨[1,0], .row false 6 [xRow ts k d (xSl c xs.length) bad pl]⟩)]
def xArg:AV := .ptr 1048578 [1,0] 0 0
def askX:List Nat:=[zabG,zabB,fXIs,zaaq,zabp,zaan,zaaU,zaaR,zaat,zaab,zabe]
def gY (X:WX)(f:Nat)(os:Orc)(ys:List AV)(σ:Hp)(r:Back):Prop:=runF X 14 f (fn f) (code f) os 0 [] (xArg::ys) σ r
def spX (ys:List AV)(σ:Hp)(r:Back):Sp:=⟨Unit,fun _=>True,fun _=>xArg::ys,fun _=>σ,fun _=>r⟩
def XI:WX:=((XB.ask askX).askAt fXIs [19,21])
def XAd:WX:=((XB.ask askX).askAt zabG [13])
def XFl:WX:=((XB.ask askX).askAt zabB [23,25])
def xIs (os:Orc)(ts:List AV)(k d:Int)(xs:List AV)(pl c:Int)(b:Bool):Prop:=gY XI fXIs os [i0 c] (xHp 0 ts k d xs 0 pl) ⟨b0 b,xHp 0 ts k d xs 0 pl,[]⟩
def xIsB (os:Orc)(ts:List AV)(k d:Int)(xs:List AV)(bad pl c:Int):Prop:=gY XI fXIs os [i0 c] (xHp 0 ts k d xs bad pl) ⟨b0 false,xHp 0 ts k d xs bad pl,[]⟩
def zaxI (os:Orc)(ts:List AV)(k d:Int)(xs:List AV)(pl e a:Int):Prop:=gY XFl zabB os [i0 e] (xHp 0 ts k d xs 0 pl) ⟨i0 0,xHp 0 ts k d xs e a,[1048578]⟩
def zaq3 (os:Orc)(ts:List AV)(k d:Int)(xs:List AV)(bad pl e:Int):Prop:=gY XFl zabB os [i0 e] (xHp 0 ts k d xs bad pl) ⟨i0 0,xHp 0 ts k d xs bad pl,[]⟩
def xAdd (os:Orc)(ts:List AV)(k d:Int)(xs:List AV)(bad pl kk a m:Int)(t:ByteArray)(ks:List AV):Prop:=gY XAd zabG os [rgV kk a m t ks] (xHp 0 ts k d xs bad pl) ⟨i0 xs.length,xHp 1 ts k d (xs++[rgV kk a m t ks]) bad pl,[1048577,1048578]⟩
def zaq4 (os:Orc)(ts:List AV)(k d:Int)(xs:List AV)(bad pl:Int):Prop:=gY (XB.ask askX) zaaq os [] (xHp 0 ts k d xs bad pl) ⟨b0 true,xHp 0 ts (k+1) (d+1) xs bad pl,[1048578]⟩
def XD (ts:List AV)(k d:Int)(xs:List AV)(bad pl bad' pl' e:Int):WX:=(XB.add zabB (Sp.con [spX [i0 e] (xHp 0 ts k d xs bad pl) ⟨i0 0,xHp 0 ts k d xs bad' pl',[1048578]⟩])).ask askX
def zaq5 (os:Orc)(ts:List AV)(k d:Int)(xs:List AV)(bad pl bad' pl':Int):Prop:=gY (XD ts k d xs bad pl bad' pl' 16) zaaq os [] (xHp 0 ts k d xs bad pl) ⟨b0 false,xHp 0 ts k d xs bad' pl',[1048578]⟩
def XW (ts:List AV)(k d:Int)(xs:List AV)(bad pl bad' pl' c:Int)(b:Bool):WX:=((XB.add zabB (Sp.con [spX [i0 15] (xHp 0 ts k d xs bad pl) ⟨i0 0,xHp 0 ts k d xs bad' pl',[1048578]⟩])).add fXIs (Sp.con [spX [i0 c] (xHp 0 ts k d xs bad pl) ⟨b0 b,xHp 0 ts k d xs bad pl,[]⟩])).ask askX
def zaq0 (os:Orc)(ts:List AV)(k d:Int)(xs:List AV)(bad pl bad' pl' c:Int):Prop:=gY (XW ts k d xs bad pl bad' pl' c true) zabp os [i0 c] (xHp 0 ts k d xs bad pl) ⟨b0 true,xHp 0 ts (k+1) d xs bad pl,[1048578]⟩
def zaq1 (os:Orc)(ts:List AV)(k d:Int)(xs:List AV)(bad pl bad' pl' c:Int):Prop:=gY (XW ts k d xs bad pl bad' pl' c false) zabp os [i0 c] (xHp 0 ts k d xs bad pl) ⟨b0 false,xHp 0 ts k d xs bad' pl',[1048578]⟩
end
end Go.Proofs.YtpofhijgccocpaaGreatDoor
end
section
namespace Go.Proofs.YtpofhijgccocpaaGreatDoor
open Go Go.AS Go.TP
end Go.Proofs.YtpofhijgccocpaaGreatDoor
end
section
namespace Go.Proofs.YtpofhijgccocpaaGreatDoor
open Go.AS Go.TP
noncomputable section
theorem zaj2 (s:ByteArray):zae s≠11:=by
 unfold zae
 by_cases h:s=bOr
 · rw [if_pos h]; decide
 rw [if_neg h]
 by_cases h:s=bAnd
 · rw [if_pos h]; decide
 rw [if_neg h]
 by_cases h:s=bNot
 · rw [if_pos h]; decide
 rw [if_neg h]
 by_cases h:s=zann
 · rw [if_pos h]; decide
 rw [if_neg h]; decide
theorem zaoG (c:Nat)(s:ByteArray):(zaeX c s).1≠11:=by
 unfold zaeX
 repeat' split
 all_goals decide
theorem zasm (s:ByteArray):(oneS s).1≠11:=by
 unfold oneS
 split
 · exact zaj2 _
 · exact zaoG _ _
theorem zanP:∀ (ts:List Tk) (e:Tk),(∀ t∈ts,t.kind≠11/\t.text.size<=600)->e.kind=11->e.text.size<=600->okT (ts++[e])
 | [],e,_,h1,h2=>⟨h2,h1⟩
 | t::ts,e,h,h1,h2=>by
  have ih:=zanP ts e (fun u hu=>h u (List.mem_cons_of_mem _ hu)) h1 h2
  have ht:=h t (List.mem_cons_self ..)
  show okT (t::(ts++[e]))
  cases hc:ts++[e] with
  | nil=>simp at hc
  | cons u r=>rw [hc] at ih; exact ⟨ht.2,ht.1,ih⟩
theorem zanU (s:ByteArray)(hs:s.size<=600):∀ (f:Nat) (i:Int) (out ts:List Tk),(∀ t∈out,t.kind≠11/\t.text.size<=600)->lexG s f i out=(none,ts)->∀ t∈ts,t.kind≠11/\t.text.size<=600:=by
 intro f
 induction f with
 | zero=>intro i out ts h e; cases e; exact h
 | succ f ih =>
  intro i out ts h e
  rw [lexG] at e
  by_cases hi:i<s.size
  · rw [if_pos hi] at e
    by_cases hb:zac3 (zaaa s i.toNat)=true
    · rw [if_pos hb] at e; exact ih _ _ _ h e
    · rw [if_neg hb] at e
      have e:(if (oneS (zabh s i)).1=0 then (some i,[]) else lexG s f (i+(oneS (zabh s i)).2) (out++[zanr s i]))=(none,ts):=e
      by_cases ho:(oneS (zabh s i)).1=0
      · rw [if_pos ho] at e; cases e
      · rw [if_neg ho] at e
        refine ih _ _ _ (fun t ht => ?_) e
        rcases List.mem_append.1 ht with ht | ht
        · exact h t ht
        · obtain rfl:=List.mem_singleton.1 ht
          refine ⟨zasm _,?_⟩
          show (s.extract _ _).size<=600
          rw [ByteArray.size_extract]; omega
  · rw [if_neg hi] at e; cases e; exact h
theorem zanT {s:ByteArray}{ts:List Tk}(h:lexS s = .ok ts):okT ts:=by
 unfold lexS at h
 by_cases hs:600<s.size
 · rw [if_pos hs] at h; cases h
 · rw [if_neg hs] at h
   have hg:=zanU s (by omega) s.size 0 []
   generalize lexG s s.size 0 []=R at h hg
   obtain ⟨_ | j,us⟩:=R
   · cases h
     exact zanP us _ (hg us (fun t ht=>by cases ht) rfl) rfl (Nat.zero_le _)
   · cases h
end
end Go.Proofs.YtpofhijgccocpaaGreatDoor
end
section
namespace Go.TP
open Go.AS
mutual
def zacX:Nd->Prop
 | .mk _ _ _ t ks=>t.size<=600/\zal1 ks
def zal1:List Nd->Prop
 | []=>True
 | n::r=>zacX n/\zal1 r
end
theorem zah0 {k a n:Int}:zacX (.mk k a n ByteArray.empty []):=⟨Nat.zero_le _,trivial⟩
theorem zacF:zacX .zero:=zah0
theorem zacf {k a n:Int}{t:ByteArray}{x:Nd}(ht:t.size<=600)(h:zacX x):zacX (.mk k a n t [x]):=⟨ht,h,trivial⟩
theorem zali {k a n:Int}{x y:Nd}(h:zacX x)(g:zacX y):zacX (.mk k a n ByteArray.empty [x,y]):=⟨Nat.zero_le _,h,g,trivial⟩
theorem e0:ByteArray.empty.size<=600:=Nat.zero_le _
theorem zamS {ts:List Tk}(h:okT ts):(zaac ts).text.size<=600:=by
 cases ts with
 | nil=>exact h.elim
 | cons t r=>exact zapA h
theorem zaeQ {part:List Tk->R}(hp:∀ ts,okT ts->Inv ts (part ts))(hq:∀ ts,okT ts->zacX (part ts).n)(km:Int->Int):∀ (n:Nat) (r:R),okT r.ts->zacX r.n->zacX (zac2 part km n r).n
 | 0,r,_,h=>by rw [zac2]; exact h
 | n+1,r,h,hn=>by
  rw [zac2]
  split
  · have h1:=zaay h
    exact zaeQ hp hq km n ⟨.mk (km (zaac r.ts).kind) (zaac r.ts).at_ 0 ByteArray.empty [r.n,(part (zaas r.ts)).n],(part (zaas r.ts)).e,(part (zaas r.ts)).ts⟩ (hp _ h1.1).1 (zali hn (hq _ h1.1))
  · exact hn
theorem zabY {d:Int}{t:Tk}{n0:Nd}{us:List Tk}{f:Int->List Tk->R}(h:zacX n0)(hf:zacX (f (d+1) us).n):zacX (zabI d t n0 us f).n:=by
 unfold zabI
 split
 · exact h
 · exact hf
theorem zacj:∀ (f:Nat) (lv:Lv) (d:Int) (ts:List Tk),okT ts->zacX (PF f lv d ts).n
 | 0,_,_,ts,h=>by rw [PF]; exact zacF
 | f+1, .expr,d,ts,h=>by
  rw [PF]
  exact zaeQ (fun us hu=>zabx f .term d us hu) (fun us hu=>zacj f .term d us hu) kmE f _ (zabx f .term d ts h).1 (zacj f .term d ts h)
 | f+1, .term,d,ts,h=>by
  rw [PF]
  exact zaeQ (fun us hu=>zabx f .part d us hu) (fun us hu=>zacj f .part d us hu) kmT f _ (zabx f .part d ts h).1 (zacj f .part d ts h)
 | f+1, .part,d,ts,h=>by
  rw [PF]
  simp only
  split
  · exact zacj f .ranged d ts h
  · exact zabY zah0 (zacf e0 (zacj f .part (d+1) _ (zaay h).1))
 | f+1, .ranged,d,ts,h=>by
  rw [PF]
  simp only
  have h1:=zaay h
  split
  · exact zabY zah0 (zacf e0 (zacj f .atom (d+1) _ h1.1))
  · have h2:=zacj f .atom d ts h
    have i2:=zabx f .atom d ts h
    have second:∀ (d:Int) (us:List Tk) (k a:Int) (n:Nd) (m:Bool),okT us->zacX n->zacX (zacn (PF f .atom d) k a n m us).n:=fun d us k a n m hu hn=>by
      unfold zacn
      split
      · exact zacf e0 hn
      · exact zali hn (zacj f .atom d us hu)
    have h3:=zaay i2.1
    split
    · exact h2
    · split
      · exact zabY (zacf e0 h2) (second _ _ _ _ _ _ h3.1 h2)
      · split
        · exact second _ _ _ _ _ _ h3.1 h2
        · exact h2
 | f+1, .atom,d,ts,h=>by
  rw [PF]
  simp only
  have hs:=zamS h
  have h1:=zaay h
  have h3:=zaay h1.1
  split
  · refine zabY zacF ?_
    have h2:=zacj f .expr (d+1) _ h1.1
    split
    · exact h2
    · exact h2
  · split
    · split
      · unfold zavM
        simp only
        split
        · exact zacF
        · refine zabY zacF ?_
          split
          · exact ⟨hs,trivial⟩
          · have h2:=zacj f .expr (d+1) _ h3.1
            split
            · exact zacf hs h2
            · split
              · exact zacf hs h2
              · split
                · exact zacf hs h2
                · split
                  · exact zacf hs h2
                  · exact zacf hs h2
      · split
        · exact ⟨hs,trivial⟩
        · exact zacF
    · exact zacF
end Go.TP
end
section
namespace Go.Proofs.YtpofhijgccocpaaGreatDoor
end Go.Proofs.YtpofhijgccocpaaGreatDoor
end
section
namespace Go.Proofs.YtpofhijgccocpaaGreatDoor
open Go.AS Go.TP
noncomputable section
abbrev ndV (k a m:Int)(t:ByteArray)(ks:List AV):AV := .agg [i0 k,i0 a,i0 m,s0 t, .lst false 5 ks]
def zair:Sp := .pure ByteArray (fun _=>True) (fun w=>[s0 w]) (fun w=>i0 (zaaH w))
def zarn:Sp := .pure ByteArray (fun w=>w.size<=1000000) (fun w=>[s0 w]) (fun w=>b0 (zaar w))
noncomputable def XR0:WX:=(XB.add zavy (Sp.con [zair])).add zaah (Sp.con [zarn])
def zazR (os:Orc)(k a m:Int)(t:ByteArray)(ks:List AV)(r:Int):Prop:=gF XR0 [zav9] zav9 os [ndV k a m t ks] (i0 r)
def zauu (os:Orc)(k a m:Int)(t:ByteArray)(ks:List AV)(r:Bool):Prop:=gF XR0 [zan] zan os [ndV k a m t ks] (b0 r)
structure NV where
 k:Int
 a:Int
 m:Int
 t:ByteArray
 ks:List AV
def zanx:Sp := .pure NV (fun _=>True) (fun v=>[ndV v.k v.a v.m v.t v.ks]) (fun v=>i0 (zabQ v.k v.t))
def zakn:Sp := .pure NV (fun v=>v.t.size<=1000000) (fun v=>[ndV v.k v.a v.m v.t v.ks]) (fun v=>b0 (zabv v.k v.m v.t))
noncomputable def XR1:WX:=(XR0.add zav9 (Sp.con [zanx])).add zan (Sp.con [zakn])
def zafh (P:Nd->Prop):Sp := .pure Nd (fun n=>P n) (fun n=>[encP n]) (fun n=>b0 (zaav n))
def gRi (X:WX)(os:Orc)(k a m:Int)(t:ByteArray)(ks:List AV)(r:Bool):Prop:=gF X [zacJ,zavw,zanc,zavx] zacJ os [ndV k a m t ks] (b0 r)
def gRiA (os:Orc)(k a m:Int)(t:ByteArray)(ks:List AV):Prop:=gRi XR1 os k a m t ks false
def gRiB (os:Orc)(k a m:Int)(t:ByteArray)(ks:List AV):Prop:=gRi XR1 os k a m t ks false
def gRiC (os:Orc)(k a m:Int)(t:ByteArray)(ks:List AV):Prop:=gRi XR1 os k a m t ks false
def gRi0 (os:Orc)(k a m:Int)(t:ByteArray):Prop:=gRi XR1 os k a m t [] true
def gRi1 (os:Orc)(P:Nd->Prop)(k a m:Int)(t:ByteArray)(x:Nd)(b:Bool):Prop:=gRi (XR1.add zacJ (Sp.con [zafh P])) os k a m t [encP x] b
def gRi2 (os:Orc)(P:Nd->Prop)(k a m:Int)(t:ByteArray)(x y:Nd)(b:Bool):Prop:=gRi (XR1.add zacJ (Sp.con [zafh P])) os k a m t [encP x,encP y] b
end
end Go.Proofs.YtpofhijgccocpaaGreatDoor
end
section
namespace Go.Proofs.YtpofhijgccocpaaGreatDoor
open Go Go.AS Go.TP
def zasp:Orc:=Orc.s (Orc.t Orc.z) (Orc.s (Orc.t Orc.z) (Orc.s (Orc.t Orc.z) (Orc.s (Orc.t Orc.z) (Orc.s Orc.z (Orc.s (Orc.t Orc.z) (Orc.s (Orc.t Orc.z) (Orc.s Orc.z (Orc.s Orc.z (Orc.s Orc.z Orc.z)))))))))
theorem zap9 (k a m:Int)(t:ByteArray)(ks:List AV)(r:Int):zazR zasp k a m t ks r=(((k==2)=true->Yt (Wk (i0 2) (i0 r)/\SameH (hpL []) (hpL [])))/\((k==2)=false->((k==3)=true->Yt (Wk (i0 2) (i0 r)/\SameH (hpL []) (hpL [])))/\((k==3)=false->((k==4)=true->Yt (Wk (i0 2) (i0 r)/\SameH (hpL []) (hpL [])))/\((k==4)=false->((k==8)=true->Yt (Wk (i0 2) (i0 r)/\SameH (hpL []) (hpL [])))/\((k==8)=false->((k==9)=true->Wk (i0 2) (i0 r)/\SameH (hpL []) (hpL []))/\((k==9)=false->((k==5)=true->Yt (Wk (i0 1) (i0 r)/\SameH (hpL []) (hpL [])))/\((k==5)=false->((k==6)=true->Yt (Wk (i0 1) (i0 r)/\SameH (hpL []) (hpL [])))/\((k==6)=false->((k==7)=true->Wk (i0 1) (i0 r)/\SameH (hpL []) (hpL []))/\((k==7)=false->((k==1)=true->Wk (i0 0) (i0 r)/\SameH (hpL []) (hpL []))/\((k==1)=false->((k==10)=true->∃ (i1:ByteArray),(True/\Wks [s0 t] [s0 i1]/\hpL []=hpL [])/\inR IntKind.i64 (zaaH i1-1)=true/\Wk (i0 (if (1:Int)<zaaH i1-1 then (1:Int) else zaaH i1-1)) (i0 r)/\SameH (hpL []) (hpL []))/\((k==10)=false->Wk (i0 (-1:Int)) (i0 r)/\SameH (hpL []) (hpL [])))))))))))):=by kernel_rfl
def zanQ:Orc:=Orc.s (Orc.s (Orc.t (Orc.t Orc.z)) (Orc.f (Orc.f Orc.z))) (Orc.s (Orc.s (HT (Orc.t (Orc.t (Orc.t Orc.z)))) (HF (Orc.s (Orc.t (Orc.t (Orc.f (Orc.f (Orc.s (Orc.t (Orc.t (Orc.f Orc.z))) (Orc.f (Orc.f (Orc.f Orc.z)))))))) (HF (Orc.f (Orc.f (Orc.f (Orc.f Orc.z)))))))) (Orc.s (Orc.t (Orc.t Orc.z)) (Orc.f (Orc.f Orc.z))))
theorem zamZ (k a m:Int)(t:ByteArray)(ks:List AV)(r:Bool):zauu zanQ k a m t ks r=(((k==1)=true->∃ (i1:ByteArray),(ByteArray.size i1<=1000000/\Wks [s0 t] [s0 i1]/\hpL []=hpL [])/\(zaar i1=true->Yt (Yt (Wk (b0 (m==0)) (b0 r)/\SameH (hpL []) (hpL []))))/\(zaar i1=false->Nf (Nf (Wk (b0 false) (b0 r)/\SameH (hpL []) (hpL [])))))/\((k==1)=false->((k==10)=true->((m==0)=true->Yt4 (Yt (Yt (Yt (Wk (b0 true) (b0 r)/\SameH (hpL []) (hpL []))))))/\((m==0)=false->Nf (Nf (∃ (i2:ByteArray),(True/\Wks [s0 t] [s0 i2]/\hpL []=hpL [])/\Nf (Nf (((zaaH i2==3)=true->Yt (Yt (Nf (Nf ((decide (m>0)=true->Yt (Yt (Nf (Wk (b0 (decide (m<=999999))) (b0 r)/\SameH (hpL []) (hpL [])))))/\(decide (m>0)=false->Nf (Nf (Nf (Wk (b0 false) (b0 r)/\SameH (hpL []) (hpL []))))))))))/\((zaaH i2==3)=false->Nf4 (Nf4 (Wk (b0 false) (b0 r)/\SameH (hpL []) (hpL []))))))))))/\((k==10)=false->((ByteArray.toList t==ByteArray.toList ⟨⟨[]⟩⟩)=true->Yt (Yt (Wk (b0 (m==0)) (b0 r)/\SameH (hpL []) (hpL []))))/\((ByteArray.toList t==ByteArray.toList ⟨⟨[]⟩⟩)=false->Nf (Nf (Wk (b0 false) (b0 r)/\SameH (hpL []) (hpL []))))))):=by kernel_rfl
def zayT:Orc:=HT (HT (Orc.t Orc.z))
theorem zatQ (k a m:Int)(t:ByteArray)(ks:List AV):gRiA zayT k a m t ks=(∃ (i1:NV),(True/\Wks [AV.agg [i0 k,i0 a,i0 m,s0 t,AV.lst false 5 ks]] [AV.agg [i0 (NV.k i1),i0 (NV.a i1),i0 (NV.m i1),s0 (NV.t i1),AV.lst false 5 (NV.ks i1)]]/\hpL []=hpL [])/\decide (zabQ (NV.k i1) (NV.t i1)<0)=true/\Yt4 (Yt4 (Wk (b0 false) (b0 false)/\SameH (hpL []) (hpL [])))):=by kernel_rfl
def zayS:Orc:=HF (Orc.f (Orc.t (Orc.t (Orc.t (Orc.t Orc.z)))))
theorem zatO (k a m:Int)(t:ByteArray)(ks:List AV):gRiB zayS k a m t ks=(∃ (i1:NV),(True/\Wks [AV.agg [i0 k,i0 a,i0 m,s0 t,AV.lst false 5 ks]] [AV.agg [i0 (NV.k i1),i0 (NV.a i1),i0 (NV.m i1),s0 (NV.t i1),AV.lst false 5 (NV.ks i1)]]/\hpL []=hpL [])/\decide (zabQ (NV.k i1) (NV.t i1)<0)=false/\Nf4 ((zabQ (NV.k i1) (NV.t i1) != (↑(List.length ks):Int))=true/\Yt (Yt (Yt (Wk (b0 false) (b0 false)/\SameH (hpL []) (hpL [])))))):=by kernel_rfl
def zayR:Orc:=HF (HF (Orc.t Orc.z))
theorem zatM (k a m:Int)(t:ByteArray)(ks:List AV):gRiC zayR k a m t ks=(let z1:=[AV.agg [i0 k,i0 a,i0 m,s0 t,AV.lst false 5 ks]]; ∃ (i1:NV),(True/\Wks z1 [AV.agg [i0 (NV.k i1),i0 (NV.a i1),i0 (NV.m i1),s0 (NV.t i1),AV.lst false 5 (NV.ks i1)]]/\hpL []=hpL [])/\decide (zabQ (NV.k i1) (NV.t i1)<0)=false/\Nf4 ((zabQ (NV.k i1) (NV.t i1) != (↑(List.length ks):Int))=false/\Nf (∃ (i2:NV),(ByteArray.size (NV.t i2)<=1000000/\Wks z1 [AV.agg [i0 (NV.k i2),i0 (NV.a i2),i0 (NV.m i2),s0 (NV.t i2),AV.lst false 5 (NV.ks i2)]]/\hpL []=hpL [])/\Nf ((!zabv (NV.k i2) (NV.m i2) (NV.t i2))=true/\Wk (b0 false) (b0 false)/\SameH (hpL []) (hpL []))))):=by kernel_rfl
def zayW:Orc:=HF (HF (Orc.f (Orc.f Orc.z)))
theorem zatW (k a m:Int)(t:ByteArray):gRi0 zayW k a m t=(let z1:=[AV.agg [i0 k,i0 a,i0 m,s0 t,AV.lst false 5 []]]; ∃ (i1:NV),(True/\Wks z1 [AV.agg [i0 (NV.k i1),i0 (NV.a i1),i0 (NV.m i1),s0 (NV.t i1),AV.lst false 5 (NV.ks i1)]]/\hpL []=hpL [])/\decide (zabQ (NV.k i1) (NV.t i1)<0)=false/\Nf4 ((zabQ (NV.k i1) (NV.t i1) != 0)=false/\Nf (∃ (i2:NV),(ByteArray.size (NV.t i2)<=1000000/\Wks z1 [AV.agg [i0 (NV.k i2),i0 (NV.a i2),i0 (NV.m i2),s0 (NV.t i2),AV.lst false 5 (NV.ks i2)]]/\hpL []=hpL [])/\Nf ((!zabv (NV.k i2) (NV.m i2) (NV.t i2))=false/\Nf (Wk (b0 true) (b0 true)/\SameH (hpL []) (hpL [])))))):=by kernel_rfl
def zayV:Orc:=HF (HF (Orc.f (Orc.t (Orc.s Orc.z (Orc.f Orc.z)))))
theorem zatU (P:Nd->Prop)(k a m:Int)(t:ByteArray)(x:Nd)(b:Bool):gRi1 zayV P k a m t x b=(let z1:=[AV.agg [i0 k,i0 a,i0 m,s0 t,AV.lst false 5 [encP x]]]; let z2:=(↑(List.length [encP x]):Int); ∃ (i1:NV),(True/\Wks z1 [AV.agg [i0 (NV.k i1),i0 (NV.a i1),i0 (NV.m i1),s0 (NV.t i1),AV.lst false 5 (NV.ks i1)]]/\hpL []=hpL [])/\decide (zabQ (NV.k i1) (NV.t i1)<0)=false/\Nf4 ((zabQ (NV.k i1) (NV.t i1) != z2)=false/\Nf (∃ (i2:NV),(ByteArray.size (NV.t i2)<=1000000/\Wks z1 [AV.agg [i0 (NV.k i2),i0 (NV.a i2),i0 (NV.m i2),s0 (NV.t i2),AV.lst false 5 (NV.ks i2)]]/\hpL []=hpL [])/\Nf ((!zabv (NV.k i2) (NV.m i2) (NV.t i2))=false/\decide ((0:Int)<z2)=true/\∃ (i3:Nd),(P i3/\Wks [encP x] [encP i3]/\hpL []=hpL [])/\((!zaav i3)=true->Wk (b0 false) (b0 b)/\SameH (hpL []) (hpL []))/\((!zaav i3)=false->Yt (decide ((1:Int)<z2)=false/\Wk (b0 true) (b0 b)/\SameH (hpL []) (hpL []))))))):=by kernel_rfl
def zayU:Orc:=HF (HF (Orc.f (Orc.t (Orc.s Orc.z (Orc.t (Orc.s Orc.z (Orc.f Orc.z)))))))
theorem zatS (P:Nd->Prop)(k a m:Int)(t:ByteArray)(x y:Nd)(b:Bool):gRi2 zayU P k a m t x y b=(let z1:=(↑(List.length [encP x,encP y]):Int); let z2:=[AV.agg [i0 k,i0 a,i0 m,s0 t,AV.lst false 5 [encP x,encP y]]]; ∃ (i1:NV),(True/\Wks z2 [AV.agg [i0 (NV.k i1),i0 (NV.a i1),i0 (NV.m i1),s0 (NV.t i1),AV.lst false 5 (NV.ks i1)]]/\hpL []=hpL [])/\decide (zabQ (NV.k i1) (NV.t i1)<0)=false/\Nf4 ((zabQ (NV.k i1) (NV.t i1) != z1)=false/\Nf (∃ (i2:NV),(ByteArray.size (NV.t i2)<=1000000/\Wks z2 [AV.agg [i0 (NV.k i2),i0 (NV.a i2),i0 (NV.m i2),s0 (NV.t i2),AV.lst false 5 (NV.ks i2)]]/\hpL []=hpL [])/\Nf ((!zabv (NV.k i2) (NV.m i2) (NV.t i2))=false/\decide ((0:Int)<z1)=true/\∃ (i3:Nd),(P i3/\Wks [encP x] [encP i3]/\hpL []=hpL [])/\((!zaav i3)=true->Wk (b0 false) (b0 b)/\SameH (hpL []) (hpL []))/\((!zaav i3)=false->Yt (decide ((1:Int)<z1)=true/\∃ (i4:Nd),(P i4/\Wks [encP y] [encP i4]/\hpL []=hpL [])/\((!zaav i4)=true->Wk (b0 false) (b0 b)/\SameH (hpL []) (hpL []))/\((!zaav i4)=false->Yt (decide ((2:Int)<z1)=false/\Wk (b0 true) (b0 b)/\SameH (hpL []) (hpL []))))))))):=by kernel_rfl
end Go.Proofs.YtpofhijgccocpaaGreatDoor
end
section
namespace Go.TP
open Go.AS
mutual
def zaAA:Nd->Nat
 | .mk _ _ _ _ ks=>zazA ks
def zazA:List Nd->Nat
 | []=>1
 | n::r=>zaAA n+match r with
  | []=>0
  | _::_=>zazA r
end
theorem zacR {ts:List Tk}(h:okT ts)(hk:(zaac ts).kind≠11):(zaas ts).length+1=ts.length:=by
 cases ts with
 | nil=>exact h.elim
 | cons t r=>have hk:t.kind≠11:=hk; rw [zagw hk]; rfl
end Go.TP
end
section
namespace Go.Proofs.YtpofhijgccocpaaGreatDoor
open Go.AS Go.TP
noncomputable section
theorem zavt (t:ByteArray):0<=zaaH t/\zaaH t<=3:=by
 unfold zaaH
 split
 · decide
 · split
   · decide
   · split <;> decide
theorem zaqC:XR0.Sound:=(zabg.add (zabO (s:=zair) fun w _=>zan6 w)).add (zabO (s:=zarn) fun w h=>zaju w h)
theorem eqT {a b:Int}(h:(a==b)=true):a=b:=eq_of_beq h
theorem eqF {a b:Int}(h:(a==b)=false):a≠b:=beq_eq_false_iff_ne.1 h
theorem zaq (k a m:Int)(t:ByteArray)(ks:List AV):zazR zasp k a m t ks (zabQ k t):=by
 rw [zap9]
 refine ⟨fun h => ?_,fun h1=>⟨fun h => ?_,fun h2=>⟨fun h => ?_,fun h3=>⟨fun h => ?_,fun h4=>⟨fun h => ?_,fun h5=>⟨fun h => ?_,fun h6=>⟨fun h => ?_,fun h7=>⟨fun h => ?_,fun h8=>⟨fun h => ?_,fun h9=>⟨fun h => ?_,fun h10 => ?_⟩⟩⟩⟩⟩⟩⟩⟩⟩⟩
 · obtain rfl:=eqT h; exact ⟨rfl, .refl _, .rfl⟩
 · obtain rfl:=eqT h; exact ⟨rfl, .refl _, .rfl⟩
 · obtain rfl:=eqT h; exact ⟨rfl, .refl _, .rfl⟩
 · obtain rfl:=eqT h; exact ⟨rfl, .refl _, .rfl⟩
 · obtain rfl:=eqT h; exact ⟨.refl _, .rfl⟩
 · obtain rfl:=eqT h; exact ⟨rfl, .refl _, .rfl⟩
 · obtain rfl:=eqT h; exact ⟨rfl, .refl _, .rfl⟩
 · obtain rfl:=eqT h; exact ⟨.refl _, .rfl⟩
 · obtain rfl:=eqT h; exact ⟨.refl _, .rfl⟩
 · obtain rfl:=eqT h
   have hf:=zavt t
   refine ⟨t,⟨trivial, .refl _,rfl⟩,zaao (by omega) (by omega), .of_eq ?_, .rfl⟩
   have e:zabQ 10 t=if zaaH t-1<1 then zaaH t-1 else 1:=rfl
   rw [e]
   by_cases h:zaaH t-1<1
   · rw [if_pos h,if_neg (by omega)]
   · rw [if_neg h]
     by_cases g:1<zaaH t-1
     · rw [if_pos g]
     · rw [if_neg g,show zaaH t-1=1 by omega]
 · have:=eqF h1; have:=eqF h2; have:=eqF h3; have:=eqF h4; have:=eqF h5; have:=eqF h6; have:=eqF h7; have:=eqF h8; have:=eqF h9; have:=eqF h10
   have e:zabQ k t = -1:=by unfold zabQ; rw [if_neg (by omega),if_neg (by omega),if_neg (by omega),if_neg (by omega)]
   rw [e]; exact ⟨.refl _, .rfl⟩
set_option maxRecDepth 100000 in
theorem zasI (k a m:Int)(t:ByteArray)(ks:List AV):F zav9 [ndV k a m t ks] (i0 (zabQ k t)):=F_ok zaqC rfl (by kernel_rfl) (by kernel_rfl) (by kernel_rfl) (zaq k a m t ks)
theorem notT {b:Bool}(h:(!b)=true):b=false:=by cases b <;> first | rfl | cases h
theorem notF {b:Bool}(h:(!b)=false):b=true:=by cases b <;> first | rfl | cases h
theorem beqD (a b:Int):(a==b)=decide (a=b):=by
 by_cases h:a=b
 · rw [decide_eq_true h,beq_iff_eq.2 h]
 · rw [decide_eq_false h,beq_eq_false_iff_ne.2 h]
theorem zam0 (k a m:Int)(t:ByteArray)(ks:List AV)(ht:t.size<=1000000):zauu zanQ k a m t ks (zabv k m t):=by
 rw [zamZ]
 have e0:(ByteArray.toList t==ByteArray.toList { data:={ toList:=[] } })=decide (t=ByteArray.empty):=zaae t ⟨⟨[]⟩⟩
 refine ⟨fun h => ?_,fun h1=>⟨fun h => ?_,fun h2=>⟨fun h => ?_,fun h => ?_⟩⟩⟩
 · obtain rfl:=eqT h
   have e:zabv 1 m t=(zaar t&&decide (m=0)):=rfl
   rw [e]
   refine ⟨t,⟨ht, .refl _,rfl⟩,fun h=>⟨rfl,rfl,?_, .rfl⟩,fun h=>⟨rfl,rfl,?_, .rfl⟩⟩
   · rw [h,beqD]; exact .refl _
   · rw [h]; exact .refl _
 · obtain rfl:=eqT h
   have e:zabv 10 m t=(decide (m=0)||(decide (zaaH t=3)&&(decide (0<m)&&decide (m<=999999)))):=rfl
   rw [e]
   refine ⟨fun h=>⟨rfl,rfl,rfl,rfl,rfl,rfl,rfl,?_, .rfl⟩,fun h0=>⟨rfl,rfl,t,⟨trivial, .refl _,rfl⟩,rfl,rfl,fun h=>⟨rfl,rfl,rfl,rfl,fun g=>⟨rfl,rfl,rfl,?_, .rfl⟩,fun g=>⟨rfl,rfl,rfl,?_, .rfl⟩⟩,fun h=>⟨rfl,rfl,rfl,rfl,rfl,rfl,rfl,rfl,?_, .rfl⟩⟩⟩
   · rw [decide_eq_true (eqT h)]; exact .refl _
   · rw [decide_eq_false (eqF h0),decide_eq_true (eqT h),decide_eq_true (of_decide_eq_true g:0<m)]; exact .refl _
   · rw [decide_eq_false (eqF h0),decide_eq_true (eqT h),decide_eq_false (of_decide_eq_false g:¬0<m)]; exact .refl _
   · rw [decide_eq_false (eqF h0),decide_eq_false (eqF h)]; exact .refl _
 · rw [e0] at h
   have e:zabv k m t=(decide (t=ByteArray.empty)&&decide (m=0)):=by unfold zabv; rw [if_neg (eqF h1),if_neg (eqF h2)]
   rw [e,h,beqD]; exact ⟨rfl,rfl, .refl _, .rfl⟩
 · rw [e0] at h
   have e:zabv k m t=(decide (t=ByteArray.empty)&&decide (m=0)):=by unfold zabv; rw [if_neg (eqF h1),if_neg (eqF h2)]
   rw [e,h]; exact ⟨rfl,rfl, .refl _, .rfl⟩
set_option maxRecDepth 100000 in
theorem zapE (k a m:Int)(t:ByteArray)(ks:List AV)(ht:t.size<=1000000):F zan [ndV k a m t ks] (b0 (zabv k m t)):=F_ok zaqC rfl (by kernel_rfl) (by kernel_rfl) (by kernel_rfl) (zam0 k a m t ks ht)
theorem zajM:XR1.Sound:=(zaqC.add (zabO (s:=zanx) fun v _=>zasI v.k v.a v.m v.t v.ks)).add (zabO (s:=zakn) fun v h=>zapE v.k v.a v.m v.t v.ks h)
abbrev FRight (n:Nd):Prop:=F zacJ [encP n] (b0 (zaav n))
set_option maxRecDepth 100000 in
theorem riFn {X:WX}(hX:X.Sound)(hp:X.px=X0){os:Orc}{k a m:Int}{t:ByteArray}{ks:List AV}{r:Bool}(g:gRi X os k a m t ks r):F zacJ [ndV k a m t ks] (b0 r):=F_ok hX hp (by kernel_rfl) (by kernel_rfl) (by kernel_rfl) g
theorem zadG:∀ l:List Nd,(encL l).length=l.length
 | []=>rfl
 | _::r=>by rw [encL,List.length_cons,List.length_cons,zadG r]
theorem zatR (k a m:Int)(t:ByteArray)(ks:List AV)(h:zabQ k t<0):gRiA zayT k a m t ks:=by
 rw [zatQ]; exact ⟨⟨k,a,m,t,ks⟩,⟨trivial, .refl _,rfl⟩,decide_eq_true h,by exact zadF⟩
theorem zatP (k a m:Int)(t:ByteArray)(ks:List AV)(h:¬zabQ k t<0)(h2:zabQ k t≠ks.length):gRiB zayS k a m t ks:=by
 rw [zatO]; exact ⟨⟨k,a,m,t,ks⟩,⟨trivial, .refl _,rfl⟩,decide_eq_false h,rfl,rfl,rfl,rfl,bne_iff_ne.2 h2,rfl,rfl,rfl, .refl _, .rfl⟩
theorem bneF {a b:Int}(h:a=b):(a != b)=false:=by rw [h]; exact bne_self_eq_false b
theorem zatN (k a m:Int)(t:ByteArray)(ks:List AV)(ht:t.size<=1000000)(h:¬zabQ k t<0)(h2:zabQ k t=ks.length)(h3:zabv k m t=false):gRiC zayR k a m t ks:=by
 rw [zatM]; exact ⟨⟨k,a,m,t,ks⟩,⟨trivial, .refl _,rfl⟩,decide_eq_false h,rfl,rfl,rfl,rfl,bneF h2,rfl,⟨k,a,m,t,ks⟩,⟨ht, .refl _,rfl⟩,rfl,by rw [h3]; rfl, .refl _, .rfl⟩
theorem zatX (k a m:Int)(t:ByteArray)(ht:t.size<=1000000)(h2:zabQ k t=0)(h3:zabv k m t=true):gRi0 zayW k a m t:=by
 rw [zatW]; exact ⟨⟨k,a,m,t,[]⟩,⟨trivial, .refl _,rfl⟩,decide_eq_false (by show ¬zabQ k t<0; omega),rfl,rfl,rfl,rfl,bneF h2,rfl,⟨k,a,m,t,[]⟩,⟨ht, .refl _,rfl⟩,rfl,by rw [h3]; rfl,rfl, .refl _, .rfl⟩
theorem zatV (k a m:Int)(t:ByteArray)(x:Nd)(ht:t.size<=1000000)(h2:zabQ k t=1)(h3:zabv k m t=true):gRi1 zayV (fun n=>n=x) k a m t x (zaav x&&true):=by
 rw [zatU]
 refine ⟨⟨k,a,m,t,[encP x]⟩,⟨trivial, .refl _,rfl⟩,decide_eq_false (by show ¬zabQ k t<0; omega),rfl,rfl,rfl,rfl,bneF h2,rfl,⟨k,a,m,t,[encP x]⟩,⟨ht, .refl _,rfl⟩,rfl,by rw [h3]; rfl,decide_eq_true (by show (0:Int)<1; decide),x,⟨rfl, .refl _,rfl⟩,fun h=>⟨?_, .rfl⟩,fun h=>⟨rfl,decide_eq_false (by show ¬(1:Int)<1; decide),?_, .rfl⟩⟩
 · rw [notT h]; exact .refl _
 · rw [notF h]; exact .refl _
theorem zatT (k a m:Int)(t:ByteArray)(x y:Nd)(ht:t.size<=1000000)(h2:zabQ k t=2)(h3:zabv k m t=true):gRi2 zayU (fun n=>n=x∨n=y) k a m t x y (zaav x&&(zaav y&&true)):=by
 rw [zatS]
 refine ⟨⟨k,a,m,t,[encP x,encP y]⟩,⟨trivial, .refl _,rfl⟩,decide_eq_false (by show ¬zabQ k t<0; omega),rfl,rfl,rfl,rfl,bneF h2,rfl,⟨k,a,m,t,[encP x,encP y]⟩,⟨ht, .refl _,rfl⟩,rfl,by rw [h3]; rfl,decide_eq_true (by show (0:Int)<2; decide),x,⟨.inl rfl, .refl _,rfl⟩,fun h=>⟨?_, .rfl⟩,fun h=>⟨rfl,decide_eq_true (by show (1:Int)<2; decide),y,⟨.inr rfl, .refl _,rfl⟩,fun g=>⟨?_, .rfl⟩,fun g=>⟨rfl,decide_eq_false (by show ¬(2:Int)<2; decide),?_, .rfl⟩⟩⟩
 · rw [notT h]; exact .refl _
 · rw [notF h,notT g]; exact .refl _
 · rw [notF h,notF g]; exact .refl _
theorem zasJ (k:Int)(t:ByteArray):zabQ k t<=2:=by
 unfold zabQ
 split
 · decide
 · split
   · decide
   · split
     · decide
     · split
       · split <;> omega
       · decide
theorem zafW {k a m:Int}{t:ByteArray}{ks:List Nd}(h:zad k m t ks.length=false):zaav (.mk k a m t ks)=false:=by rw [zaav,h]; rfl
set_option maxRecDepth 100000 in
theorem zamq (k a m:Int)(t:ByteArray)(ks:List Nd)(ht:t.size<=600)(ih:∀ x∈ks,FRight x):FRight (.mk k a m t ks):=by
 show F zacJ [ndV k a m t (encL ks)] _
 by_cases h:zabQ k t<0
 · have e:zaav (.mk k a m t ks)=false:=zafW (by unfold zad; rw [decide_eq_false (by omega)]; rfl)
   rw [e]; exact riFn zajM rfl (zatR k a m t _ h)
 by_cases h2:zabQ k t=ks.length
 · cases h3:zabv k m t with
   | false =>
     have e:zaav (.mk k a m t ks)=false:=zafW (by unfold zad; rw [h3,Bool.and_false,Bool.and_false])
     rw [e]; exact riFn zajM rfl (zatN k a m t _ (by omega) h (by rw [zadG]; exact h2) h3)
   | true =>
     have e:zaav (.mk k a m t ks)=zack ks:=by
       rw [zaav]; unfold zad; rw [h3,decide_eq_true (by omega),decide_eq_true h2]; rfl
     rw [e]
     have hl:=zasJ k t
     match ks,ih with
     | [],_=>exact riFn zajM rfl (zatX k a m t (by omega) h2 h3)
     | [x],ih =>
       rw [zagd]
       exact riFn (X:=XR1.add zacJ (Sp.con [zafh fun n=>n=x])) (zajM.add (zabO (s:=zafh fun n=>n=x) fun n (hn:n=x)=>by rw [hn]; exact ih x (List.mem_cons_self ..))) rfl (zatV k a m t x (by omega) h2 h3)
     | [x,y],ih =>
       rw [zalA]
       exact riFn (X:=XR1.add zacJ (Sp.con [zafh fun n=>n=x∨n=y])) (zajM.add (zabO (s:=zafh fun n=>n=x∨n=y) fun n (hn:n=x∨n=y)=>ih n (by rcases hn with hn | hn <;> simp [hn]))) rfl (zatT k a m t x y (by omega) h2 h3)
     | x::y::z::r,_=>rw [List.length_cons,List.length_cons,List.length_cons] at h2; omega
 · have e:zaav (.mk k a m t ks)=false:=zafW (by unfold zad; rw [decide_eq_false h2,Bool.false_and,Bool.and_false])
   rw [e]; exact riFn zajM rfl (zatP k a m t _ h (by rw [zadG]; exact h2))
theorem zahr (n:Nd):zacX n->FRight n:=by
 refine Nd.rec (motive_1:=fun n=>zacX n->FRight n) (motive_2:=fun l=>zal1 l->∀ x∈l,FRight x) ?_ ?_ ?_ n
 · intro k a m t ks ih h; exact zamq k a m t ks h.1 (ih h.2)
 · intro _ x hx; cases hx
 · intro x l i1 i2 h y hy
   rcases List.mem_cons.1 hy with rfl | hy
   · exact i1 h.1
   · exact i2 h.2 y hy
end
end Go.Proofs.YtpofhijgccocpaaGreatDoor
end
section
namespace Go.Proofs.YtpofhijgccocpaaGreatDoor
open Go.AS Go.TP
noncomputable section
end
end Go.Proofs.YtpofhijgccocpaaGreatDoor
end
section
namespace Go.Proofs.YtpofhijgccocpaaGreatDoor
open Go.AS Go.TP
noncomputable section
def zaxK (ns:List AV):AV := .agg [.lst false 5 ns]
abbrev nV (k a m:Int)(t:ByteArray)(vs:List AV):AV := .agg [i0 k,i0 a,i0 m,s0 t, .lst false 5 vs]
end
end Go.Proofs.YtpofhijgccocpaaGreatDoor
end
section
namespace Go.Proofs.YtpofhijgccocpaaGreatDoor
open Go Go.AS Go.TP
noncomputable abbrev zapn (ts:List AV) (k:Int) (d:Int) (xs:List AV) (bad:Int) (pl:Int):=[AV.agg [AV.lst false 3 ts,i0 k,i0 d,AV.slc 1048577 [0,0] 0 (List.length xs),i0 bad,i0 pl]]
theorem zawh (ts:List AV)(k d:Int)(xs:List AV)(pl c:Int)(b:Bool):xIs (Orc.t (Orc.t (Orc.t (Orc.t (Orc.t (Orc.t (Orc.t (Orc.t (Orc.t (Orc.t (Orc.t (Orc.t (Orc.t Orc.z))))))))))))) ts k d xs pl c b=(let z1:=[AV.agg [AV.lst false 3 ts,i0 k,i0 d,AV.slc 1048577 [0,0] 0 (List.length xs),i0 0,i0 pl]]; Yt4 (Yt4 (Yt ((decide ((0:Int)<=k/\k<(↑(List.length ts):Int))&&(true&&(zaak (Cx.B (cxV XI 14 fXIs)) shN 124 (List.getD ts (Int.toNat k) uu)&&(true||false))))=true/\Yt4 (Wk (b0 (intA (nthA 0 (List.getD ts (Int.toNat k) uu))==c)) (b0 b)/\SameH (hpL [eR 1048577 [0,0] 5 xs,(1048578,{ id:=[1,0],obj:=AObj.row false 6 z1 })]) (hpL [eR 1048577 [0,0] 5 xs,(1048578,{ id:=[1,0],obj:=AObj.row false 6 z1 })])))))):=by kernel_rfl
theorem zaq2 (ts:List AV)(k d:Int)(xs:List AV)(bad pl c:Int):xIsB (Orc.f (Orc.f (Orc.f (Orc.f (Orc.f (Orc.f (Orc.f (Orc.f (Orc.f (Orc.f (Orc.f (Orc.f (Orc.f Orc.z))))))))))))) ts k d xs bad pl c=((bad==0)=false/\Nf4 (Nf4 (Nf4 (Wk (b0 false) (b0 false)/\SameH (hpL [eR 1048577 [0,0] 5 xs,(1048578,{ id:=[1,0],obj:=AObj.row false 6 (zapn ts k d xs bad pl) })]) (hpL [eR 1048577 [0,0] 5 xs,(1048578,{ id:=[1,0],obj:=AObj.row false 6 (zapn ts k d xs bad pl) })]))))):=by kernel_rfl
theorem zaoo (ts:List AV)(k d:Int)(xs:List AV)(pl e a:Int):zaxI (Orc.t Orc.z) ts k d xs pl e a=(let z1:=AV.slc 1048577 [0,0] 0 (List.length xs); Yt ((decide ((0:Int)<=k/\k<(↑(List.length ts):Int))&&(true&&(zaak (Cx.B (cxV XFl 14 zabB)) shN 124 (List.getD ts (Int.toNat k) uu)&&(true||false))))=true/\Wk (i0 0) (i0 0)/\SameH (hpL [eR 1048577 [0,0] 5 xs,(1048578,{ id:=[1,0],obj:=AObj.row false 6 [AV.agg [AV.lst false 3 ts,i0 k,i0 d,z1,i0 e,i0 (intA (nthA 1 (List.getD ts (Int.toNat k) uu)))]] })]) (hpL [eR 1048577 [0,0] 5 xs,(1048578,{ id:=[1,0],obj:=AObj.row false 6 [AV.agg [AV.lst false 3 ts,i0 k,i0 d,z1,i0 e,i0 a]] })]))):=by kernel_rfl
theorem zal8 (ts:List AV)(k d:Int)(xs:List AV)(bad pl e:Int):zaq3 (Orc.f Orc.z) ts k d xs bad pl e=((bad==0)=false/\Wk (i0 0) (i0 0)/\SameH (hpL [eR 1048577 [0,0] 5 xs,(1048578,{ id:=[1,0],obj:=AObj.row false 6 (zapn ts k d xs bad pl) })]) (hpL [eR 1048577 [0,0] 5 xs,(1048578,{ id:=[1,0],obj:=AObj.row false 6 (zapn ts k d xs bad pl) })])):=by kernel_rfl
theorem zaq6 (ts:List AV)(k d:Int)(xs:List AV)(bad pl:Int)(kk a m:Int)(t:ByteArray)(ks:List AV):xAdd (Orc.z) ts k d xs bad pl kk a m t ks=(let z1:=(List.take (List.length xs) (List.drop 0 xs)++[AV.agg [i0 kk,i0 a,i0 m,s0 t,AV.lst false 1 ks]]); let z2:=(xs++[AV.agg [i0 kk,i0 a,i0 m,s0 t,AV.lst false 1 ks]]); (true&&(true&&Nat.ble (0+List.length xs) (List.length xs))&&(true&&decide (List.length z1*64<=140737488355328/\List.length z1<=1152921504606846976)))=true/\inR IntKind.i64 ((↑(List.length z1):Int)-1)=true/\Wk (i0 ((↑(List.length z1):Int)-1)) (i0 (↑(List.length xs):Int))/\SameH (hpL [eR 1048577 [0,1] 5 z1,(1048578,{ id:=[1,0],obj:=AObj.row false 6 [AV.agg [AV.lst false 3 ts,i0 k,i0 d,AV.slc 1048577 [0,1] 0 (List.length z1),i0 bad,i0 pl]] })]) (hpL [eR 1048577 [0,1] 5 z2,(1048578,{ id:=[1,0],obj:=AObj.row false 6 [AV.agg [AV.lst false 3 ts,i0 k,i0 d,AV.slc 1048577 [0,1] 0 (List.length z2),i0 bad,i0 pl]] })])):=by kernel_rfl
theorem zal9 (ts:List AV)(k d:Int)(xs:List AV)(bad pl:Int):zaq4 (Orc.f Orc.z) ts k d xs bad pl=(let z1:=[AV.agg [AV.lst false 3 ts,i0 (k+1),i0 (d+1),AV.slc 1048577 [0,0] 0 (List.length xs),i0 bad,i0 pl]]; decide (d>=24)=false/\inR IntKind.i64 (d+1)=true/\inR IntKind.i64 (k+1)=true/\Wk (b0 true) (b0 true)/\SameH (hpL [eR 1048577 [0,0] 5 xs,(1048578,{ id:=[1,0],obj:=AObj.row false 6 z1 })]) (hpL [eR 1048577 [0,0] 5 xs,(1048578,{ id:=[1,0],obj:=AObj.row false 6 z1 })])):=by kernel_rfl
theorem zam (ts:List AV)(k d:Int)(xs:List AV)(bad pl:Int)(bad' pl':Int):zaq5 (Orc.t Orc.z) ts k d xs bad pl bad' pl'=(let z1:=[AV.agg [AV.lst false 3 ts,i0 k,i0 d,AV.slc 1048577 [0,0] 0 (List.length xs),i0 bad',i0 pl']]; let z2:=eR 1048577 [0,0] 5 xs; let z3:=[AV.ptr 1048578 [1,0] 0 0,i0 16]; decide (d>=24)=true/\U1 z3 [z2,(1048578,{ id:=[1,0],obj:=AObj.row false 6 (zapn ts k d xs bad pl) })] (Wk (b0 false) (b0 false)/\SameH (hpL [z2,(1048578,{ id:=[1,0],obj:=AObj.row false 6 z1 })]) (hpL [z2,(1048578,{ id:=[1,0],obj:=AObj.row false 6 z1 })]))):=by kernel_rfl
theorem zal6 (ts:List AV)(k d:Int)(xs:List AV)(bad pl:Int)(bad' pl' c:Int):zaq0 (Orc.f Orc.z) ts k d xs bad pl bad' pl' c=(let z1:=[AV.agg [AV.lst false 3 ts,i0 (k+1),i0 d,AV.slc 1048577 [0,0] 0 (List.length xs),i0 bad,i0 pl]]; let z2:=eR 1048577 [0,0] 5 xs; U1 [AV.ptr 1048578 [1,0] 0 0,i0 c] [z2,(1048578,{ id:=[1,0],obj:=AObj.row false 6 (zapn ts k d xs bad pl) })] (Nf (inR IntKind.i64 (k+1)=true/\Wk (b0 true) (b0 true)/\SameH (hpL [z2,(1048578,{ id:=[1,0],obj:=AObj.row false 6 z1 })]) (hpL [z2,(1048578,{ id:=[1,0],obj:=AObj.row false 6 z1 })])))):=by kernel_rfl
theorem zal7 (ts:List AV)(k d:Int)(xs:List AV)(bad pl:Int)(bad' pl' c:Int):zaq1 (Orc.t Orc.z) ts k d xs bad pl bad' pl' c=(let z1:=[AV.agg [AV.lst false 3 ts,i0 k,i0 d,AV.slc 1048577 [0,0] 0 (List.length xs),i0 bad',i0 pl']]; let z2:=eR 1048577 [0,0] 5 xs; let z3:=AV.ptr 1048578 [1,0] 0 0; let z4:=(zapn ts k d xs bad pl); U1 [z3,i0 c] [z2,(1048578,{ id:=[1,0],obj:=AObj.row false 6 z4 })] (Yt (U1 [z3,i0 15] [z2,(1048578,{ id:=[1,0],obj:=AObj.row false 6 z4 })] (Wk (b0 false) (b0 false)/\SameH (hpL [z2,(1048578,{ id:=[1,0],obj:=AObj.row false 6 z1 })]) (hpL [z2,(1048578,{ id:=[1,0],obj:=AObj.row false 6 z1 })]))))):=by kernel_rfl
end Go.Proofs.YtpofhijgccocpaaGreatDoor
end
section
namespace Go.TP
open Go.AS
def offL:Lv->Nat
 | .expr=>5
 | .term=>4
 | .part=>3
 | .ranged=>2
 | .atom=>1
theorem zaiY (t:ByteArray):zaaH t=0∨zaaH t=1∨zaaH t=2∨zaaH t=3:=by
 unfold zaaH
 split
 · simp
 · split
   · simp
   · split <;> simp
end Go.TP
end
section
namespace Go.TP
open Go.AS
structure RN where
 kind:Int
 at_:Int
 n:Int
 text:ByteArray
 kids:List Nat
structure RS where
 ts:List Tk
 deep:Int
 out:List RN
 bad:Option (Int × Int)
def isR (k:Int)(s:RS):Bool:=s.bad.isNone&&decide ((zaac s.ts).kind=k)
def zaaW (e:Int)(s:RS):RS:=match s.bad with
 | none=>{ s with bad:=some (e,(zaac s.ts).at_) }
 | some _=>s
def addR (n:RN)(s:RS):Nat × RS:=(s.out.length,{ s with out:=s.out++[n] })
def zaaB (s:RS):RS:={ s with ts:=zaas s.ts }
def downR (s:RS):Bool × RS:=if 24<=s.deep then (false,zaaW 16 s) else (true,{ s with deep:=s.deep+1,ts:=zaas s.ts })
def upR (s:RS):RS:={ s with deep:=s.deep-1 }
def zabs (k:Int)(s:RS):Bool × RS:=if isR k s then (true,zaaB s) else (false,zaaW 15 s)
def zabU (part:RS->Nat × RS)(km:Int->Int)(is:RS->Bool):Nat->Nat × RS->Nat × RS
 | 0,r=>r
 | f+1,r=>if is r.2 then
   let t:=zaac r.2.ts
   let q:=part (zaaB r.2)
   zabU part km is f (addR ⟨km t.kind,t.at_,0,ByteArray.empty,[r.1,q.1]⟩ q.2)
  else r
def isE (s:RS):Bool:=isR 7 s||isR 8 s
def RP:Nat->Lv->RS->Nat × RS
 | 0,_,s=>(0,s)
 | f+1, .expr,s=>zabU (RP f .term) kmE isE f (RP f .term s)
 | f+1, .term,s=>zabU (RP f .part) kmT (isR 9) f (RP f .part s)
 | f+1, .part,s =>
  if isR 10 s then
   let d:=downR s
   if d.1 then
    let q:=RP f .part d.2
    addR ⟨5,(zaac s.ts).at_,0,ByteArray.empty,[q.1]⟩ (upR q.2)
   else (0,d.2)
  else RP f .ranged s
 | f+1, .ranged,s =>
  if isR 5 s then
   let d:=downR s
   if d.1 then
    let q:=RP f .atom d.2
    addR ⟨6,(zaac s.ts).at_,0,ByteArray.empty,[q.1]⟩ (upR q.2)
   else (0,d.2)
  else
   let a:=RP f .atom s
   if isR 5 a.2 then
    let u:=(zaac a.2.ts).at_
    let d:=downR a.2
    if d.1 then
     if isR 2 d.2||isR 1 d.2 then
      let q:=RP f .atom d.2
      addR ⟨8,u,0,ByteArray.empty,[a.1,q.1]⟩ (upR q.2)
     else addR ⟨7,u,0,ByteArray.empty,[a.1]⟩ (upR d.2)
    else (0,d.2)
   else if isR 6 a.2 then
    let q:=RP f .atom (zaaB a.2)
    addR ⟨9,(zaac a.2.ts).at_,0,ByteArray.empty,[a.1,q.1]⟩ q.2
   else a
 | f+1, .atom,s =>
  if isR 2 s then
   let d:=downR s
   if d.1 then
    let q:=RP f .expr d.2
    (q.1,upR (zabs 3 q.2).2)
   else (0,d.2)
  else if isR 1 s then
   let w:=zaac s.ts
   if (zaac (zaas s.ts)).kind≠2 then
    if zaar w.text then addR ⟨1,w.at_,0,w.text,[]⟩ (zaaB s) else (0,zaaW 15 s)
   else if zaaH w.text=0 then (0,zaaW 15 s)
   else
    let d:=downR (zaaB s)
    if d.1 then
     let q:=if zaaH w.text=1 then ([],d.2) else let q:=RP f .expr d.2; ([q.1],q.2)
     if zaaH w.text=3 then
      let c:=zabs 4 q.2
      if c.1 then
       match (if isR 1 c.2 then zaez (zaac c.2.ts) else none) with
       | none=>(0,zaaW 15 c.2)
       | some k=>addR ⟨10,w.at_,k,w.text,q.1⟩ (upR (zabs 3 (zaaB c.2)).2)
      else addR ⟨10,w.at_,0,w.text,q.1⟩ (upR (zabs 3 c.2).2)
     else addR ⟨10,w.at_,0,w.text,q.1⟩ (upR (zabs 3 q.2).2)
    else (0,d.2)
  else (0,zaaW 15 s)
theorem zah8 {s:RS}{x:Int × Int}(h:s.bad=some x)(k:Int):isR k s=false:=by unfold isR; rw [h]; rfl
theorem zaqy {s:RS}{x:Int × Int}(h:s.bad=some x)(e:Int):zaaW e s=s:=by unfold zaaW; rw [h]
theorem zagl {s:RS}{x:Int × Int}(h:s.bad=some x)(k:Int):(zabs k s).2=s:=by
 unfold zabs; rw [zah8 h]; exact zaqy h _
theorem zasR (s:RS)(x:Int × Int)(h:s.bad=some x):isE s=false:=by unfold isE; rw [zah8 h,zah8 h]; rfl
inductive Rep (l:List RN):Nat->Nd->Prop
 | mk (a:Nat) (x:RN) (ks:List Nd) (hx:l[a]?=some x) (hl:x.kids.length=ks.length) (hlt:∀ b∈x.kids,b<a) (hk:∀ (i b:Nat) (k:Nd),x.kids[i]?=some b->ks[i]?=some k->Rep l b k):Rep l a (.mk x.kind x.at_ x.n x.text ks)
theorem Rep.mono {l:List RN}{a:Nat}{n:Nd}(h:Rep l a n)(m:List RN):Rep (l++m) a n:=by
 induction h with
 | mk a x ks hx hl hlt hk ih =>
  have ha:a<l.length:=(List.getElem?_eq_some_iff.1 hx).1
  exact .mk a x ks (by rw [List.getElem?_append_left ha]; exact hx) hl hlt ih
theorem Rep.lt {l:List RN}{a:Nat}{n:Nd}(h:Rep l a n):a<l.length:=by
 cases h with
 | mk _ x ks hx hl hlt hk=>exact (List.getElem?_eq_some_iff.1 hx).1
def Agree (s:RS)(r:R)(q:Nat × RS):Prop:=match r.e with
 | none=>∃ xs,q.2=⟨r.ts,s.deep,s.out++xs,none⟩/\Rep (s.out++xs) q.1 r.n
 | some x=>q.2.bad=some x
theorem zanD {l:List RN}{k a n:Int}{t:ByteArray}:Rep (l++[⟨k,a,n,t,[]⟩]) l.length (.mk k a n t []) :=
 .mk l.length ⟨k,a,n,t,[]⟩ [] (by rw [List.getElem?_append_right (Nat.le_refl _),Nat.sub_self]; rfl) rfl (fun b hb=>by cases hb) (fun i b k h=>by cases h)
theorem zaiu {l:List RN}{k a n:Int}{t:ByteArray}{p:Nat}{x:Nd}(h:Rep l p x):Rep (l++[⟨k,a,n,t,[p]⟩]) l.length (.mk k a n t [x]) :=
 .mk l.length ⟨k,a,n,t,[p]⟩ [x] (by rw [List.getElem?_append_right (Nat.le_refl _),Nat.sub_self]; rfl) rfl (fun b hb=>by rw [List.mem_singleton.1 hb]; exact h.lt) fun i b k h1 h2=>by
  cases i with
  | zero=>cases h1; cases h2; exact h.mono _
  | succ i=>cases h1
theorem zanC {l:List RN}{k a n:Int}{t:ByteArray}{p q:Nat}{x y:Nd}(h:Rep l p x)(g:Rep l q y):Rep (l++[⟨k,a,n,t,[p,q]⟩]) l.length (.mk k a n t [x,y]) :=
 .mk l.length ⟨k,a,n,t,[p,q]⟩ [x,y] (by rw [List.getElem?_append_right (Nat.le_refl _),Nat.sub_self]; rfl) rfl (fun b hb=>by
  rcases List.mem_cons.1 hb with rfl | hb
  · exact h.lt
  · rw [List.mem_singleton.1 hb]; exact g.lt) fun i b k h1 h2=>by
  match i with
  | 0=>cases h1; cases h2; exact h.mono _
  | 1=>cases h1; cases h2; exact g.mono _
  | i+2=>cases h1
theorem zabb {s:RS}(h:s.bad=none)(k:Int):isR k s=decide ((zaac s.ts).kind=k):=by unfold isR; rw [h]; rfl
theorem zabD {s:RS}(h:s.bad=none)(e:Int):(zaaW e s).bad=some (e,(zaac s.ts).at_):=by unfold zaaW; rw [h]
theorem zaeS {n:RN}{s:RS}{x:Int × Int}(h:s.bad=some x):(addR n s).2.bad=some x:=h
theorem zajf {s:RS}{x:Int × Int}(h:s.bad=some x):(upR s).bad=some x:=h
theorem zah5 {part:List Tk->R} {pr:RS->Nat × RS} {km:Int->Int} {is:RS->Bool} {d:Int} {N:Nat} (hp:∀ ts,okT ts->Inv ts (part ts)) (hq:∀ s:RS,okT s.ts->s.bad=none->s.deep=d->s.ts.length<=N->Agree s (part s.ts) (pr s))
  (hi:∀ s:RS,s.bad=none->(is s=true↔km (zaac s.ts).kind≠0)) (hb:∀ s x,s.bad=some x->is s=false) {s:RS} (hs:s.deep=d):∀ (f:Nat) (r:R) (q:Nat × RS),okT r.ts->r.ts.length<=N->Agree s r q->Agree s (zac2 part km f r) (zabU pr km is f q)
 | 0,r,q,_,_,h=>by rw [zac2,zabU]; exact h
 | f+1,r,q,hk,hl,h=>by
  rw [zac2,zabU]
  cases he:r.e with
  | some x =>
   have h':=h
   unfold Agree at h'
   rw [he] at h'
   rw [hb _ _ h',if_neg (fun c=>by cases c.1)]; exact h
  | none =>
   have h':=h
   unfold Agree at h'
   rw [he] at h'
   obtain ⟨xs,hx,hr⟩:=h'
   have hb0:q.2.bad=none:=by rw [hx]
   have ht0:q.2.ts=r.ts:=by rw [hx]
   by_cases hc:km (zaac r.ts).kind≠0
   · rw [if_pos ⟨rfl,hc⟩,(hi q.2 hb0).2 (by rw [ht0]; exact hc),if_pos rfl]
     have h1:=zaay hk
     have h2:=hp _ h1.1
     have hl2:=Nat.le_trans h1.2 hl
     have g:=hq (zaaB q.2) (by show okT (zaas q.2.ts); rw [ht0]; exact h1.1) hb0 (by show q.2.deep=d; rw [hx]; exact hs) (by show (zaas q.2.ts).length<=N; rw [ht0]; exact hl2)
     have e1:(zaaB q.2).ts=zaas r.ts:=by show zaas q.2.ts=_; rw [ht0]
     rw [e1] at g
     refine zah5 hp hq hi hb hs f _ _ h2.1 (Nat.le_trans h2.2 hl2) ?_
     unfold Agree at g ⊢
     show match (part (zaas r.ts)).e with | none=>_ | some x=>_
     cases hpe:(part (zaas r.ts)).e with
     | some x=>rw [hpe] at g; exact zaeS g
     | none =>
       rw [hpe] at g
       obtain ⟨ys,hy,hr2⟩:=g
       have e2:(zaaB q.2).out=s.out++xs:=by show q.2.out=_; rw [hx]
       have e3:(zaaB q.2).deep=s.deep:=by show q.2.deep=_; rw [hx]
       rw [e2] at hy hr2
       rw [e3] at hy
       refine ⟨xs++(ys++[⟨km (zaac q.2.ts).kind,(zaac q.2.ts).at_,0,ByteArray.empty,[q.1,(pr (zaaB q.2)).1]⟩]),?_,?_⟩
       · show ({ (pr (zaaB q.2)).2 with out:=_ }:RS)=_
         rw [hy]
         simp only [List.append_assoc]
       · show Rep _ (pr (zaaB q.2)).2.out.length _
         have e4:(pr (zaaB q.2)).2.out=s.out++xs++ys:=by rw [hy]
         rw [e4,ht0,<-List.append_assoc,<-List.append_assoc]
         exact zanC (hr.mono ys) hr2
   · rw [if_neg (fun c=>hc c.2)]
     have:is q.2=false:=by
       cases hh:is q.2 with
       | false=>rfl
       | true=>exact absurd ((hi q.2 hb0).1 hh) (by rw [ht0]; exact hc)
     rw [this]; exact h
end Go.TP
end
section
namespace Go.TP
open Go.AS
theorem zaaT {s:RS}{r:R}{q:Nat × RS}{x:Int × Int}(h:r.e=some x)(g:q.2.bad=some x):Agree s r q:=by unfold Agree; rw [h]; exact g
theorem zac4 {s:RS}{r:R}{q:Nat × RS}(h:r.e=none)(g:∃ xs,q.2=⟨r.ts,s.deep,s.out++xs,none⟩/\Rep (s.out++xs) q.1 r.n):Agree s r q:=by unfold Agree; rw [h]; exact g
theorem zabL {s:RS}{r:R}{q:Nat × RS}(h:Agree s r q):(∃ x,r.e=some x/\q.2.bad=some x)∨(r.e=none/\∃ xs,q.2=⟨r.ts,s.deep,s.out++xs,none⟩/\Rep (s.out++xs) q.1 r.n):=by
 unfold Agree at h
 cases he:r.e with
 | none=>rw [he] at h; exact .inr ⟨rfl,h⟩
 | some x=>rw [he] at h; exact .inl ⟨x,rfl,h⟩
theorem zalF {s:RS}(h:s.deep=24):downR s=(false,zaaW 16 s):=if_pos (by omega)
theorem zah1 {s:RS}(h:s.deep<24):downR s=(true,{ s with deep:=s.deep+1,ts:=zaas s.ts }):=if_neg (by omega)
theorem zalE {s:RS}(hb:s.bad=none)(h1:s.deep<=24){n0:Nd}{f:Int->List Tk->R}{g:RS->Nat × RS}(hk:s.deep<24->Agree s (f (s.deep+1) (zaas s.ts)) (g { s with deep:=s.deep+1,ts:=zaas s.ts })) :
  Agree s (zabI s.deep (zaac s.ts) n0 (zaas s.ts) f) (if (downR s).1=true then g (downR s).2 else (0,(downR s).2)):=by
 unfold zabI
 by_cases hd:s.deep=24
 · rw [if_pos hd,zalF hd,if_neg (by simp)]
   exact zaaT rfl (zabD hb 16)
 · rw [if_neg hd,zah1 (by omega),if_pos rfl]
   exact hk (by omega)
theorem zask {s:RS}{r:R}{q:Nat × RS}{ts:List Tk}(h:Agree { s with deep:=s.deep+1,ts:=ts } r q)(k a:Int):Agree s ⟨.mk k a 0 ByteArray.empty [r.n],r.e,r.ts⟩ (addR ⟨k,a,0,ByteArray.empty,[q.1]⟩ (upR q.2)):=by
 rcases zabL h with ⟨x,e1,e2⟩ | ⟨e1,xs,e2,e3⟩
 · exact zaaT e1 (zaeS (zajf e2))
 · refine zac4 e1 ⟨xs++[⟨k,a,0,ByteArray.empty,[q.1]⟩],?_,?_⟩
   · show ({ upR q.2 with out:=(upR q.2).out++_ }:RS)=_
     rw [e2]
     simp only [upR,List.append_assoc]
     congr 1; omega
   · show Rep _ (upR q.2).out.length _
     have:(upR q.2).out=s.out++xs:=by rw [e2]; rfl
     rw [this,<-List.append_assoc]
     exact zaiu e3
theorem zare {s s1:RS}{r1 r2:R}{q1 q2:Nat × RS}{xs:List RN}(h1:Rep (s.out++xs) q1.1 r1.n)(hs:s1.out=s.out++xs){dd:Int}(hd:s1.deep=s.deep+dd)(h2:Agree s1 r2 q2)(k a:Int)(up:RS->RS)(hu:∀ t,up t={ t with deep:=t.deep-dd }) :
  Agree s ⟨.mk k a 0 ByteArray.empty [r1.n,r2.n],r2.e,r2.ts⟩ (addR ⟨k,a,0,ByteArray.empty,[q1.1,q2.1]⟩ (up q2.2)):=by
 rcases zabL h2 with ⟨x,e1,e2⟩ | ⟨e1,ys,e2,e3⟩
 · exact zaaT e1 (zaeS (by rw [hu]; exact e2))
 · rw [hs,hd] at e2
   rw [hs] at e3
   refine zac4 e1 ⟨xs++(ys++[⟨k,a,0,ByteArray.empty,[q1.1,q2.1]⟩]),?_,?_⟩
   · show ({ up q2.2 with out:=(up q2.2).out++_ }:RS)=_
     rw [hu,e2]
     simp only [List.append_assoc]
     congr 1; omega
   · show Rep _ (up q2.2).out.length _
     have:(up q2.2).out=s.out++xs++ys:=by rw [hu,e2]
     rw [this,<-List.append_assoc,<-List.append_assoc]
     exact zanC (h1.mono ys) e3
theorem zaj5 {k:Int}{s:RS}(hb:s.bad=none):(zaaV k s.ts).1=none/\zabs k s=(true,{ s with ts:=(zaaV k s.ts).2 })∨∃ x,(zaaV k s.ts).1=some x/\(zabs k s).1=false/\(zabs k s).2.bad=some x:=by
 unfold zaaV zabs
 rw [zabb hb]
 by_cases h:(zaac s.ts).kind=k
 · rw [if_pos h,decide_eq_true h,if_pos rfl]; exact .inl ⟨rfl,rfl⟩
 · rw [if_neg h,decide_eq_false h]
   exact .inr ⟨_,rfl,rfl,zabD hb 15⟩
theorem zah4 {s:RS}{us:List Tk}{w:Tk}{k:Int}{xs:List RN}{ps:List Nat}{ms:List Nd}(hrep:Rep (s.out++xs++[⟨10,w.at_,k,w.text,ps⟩]) (s.out++xs).length (.mk 10 w.at_ k w.text ms)) :
  Agree s ⟨.mk 10 w.at_ k w.text ms,(zaaV 3 us).1,(zaaV 3 us).2⟩ (addR ⟨10,w.at_,k,w.text,ps⟩ (upR (zabs 3 ⟨us,s.deep+1,s.out++xs,none⟩).2)):=by
 rcases zaj5 (k:=3) (s:=⟨us,s.deep+1,s.out++xs,none⟩) rfl with ⟨e1,e2⟩ | ⟨x,e1,_,e3⟩
 · refine zac4 e1 ⟨xs++[⟨10,w.at_,k,w.text,ps⟩],?_,?_⟩
   · show ({ upR (zabs 3 _).2 with out:=(upR (zabs 3 _).2).out++_ }:RS)=_
     rw [e2]
     simp only [upR,List.append_assoc]
     congr 1; omega
   · show Rep _ (upR (zabs 3 _).2).out.length _
     rw [e2,<-List.append_assoc]; exact hrep
 · exact zaaT e1 (zaeS (zajf e3))
end Go.TP
end
section
namespace Go.TP
open Go.AS
theorem ff:¬(false=true):=by decide
theorem zasH (s:RS)(h:s.bad=none):isE s=true↔kmE (zaac s.ts).kind≠0:=by
 unfold isE kmE
 rw [zabb h,zabb h,Bool.or_eq_true,decide_eq_true_eq,decide_eq_true_eq]
 constructor
 · rintro (e | e)
   · rw [if_pos e]; decide
   · rw [if_neg (by omega),if_pos e]; decide
 · intro hn
   by_cases e:(zaac s.ts).kind=7
   · exact .inl e
   · rw [if_neg e] at hn
     by_cases e2:(zaac s.ts).kind=8
     · exact .inr e2
     · rw [if_neg e2] at hn; exact absurd rfl hn
theorem zasG (s:RS)(h:s.bad=none):isR 9 s=true↔kmT (zaac s.ts).kind≠0:=by
 unfold kmT
 rw [zabb h,decide_eq_true_eq]
 constructor
 · intro e; rw [if_pos e]; decide
 · intro hn
   by_cases e:(zaac s.ts).kind=9
   · exact e
   · rw [if_neg e] at hn; exact absurd rfl hn
theorem zajN:∀ (f:Nat) (lv:Lv) (s:RS),okT s.ts->s.bad=none->s.deep<=24->5*s.ts.length+offL lv<=f->Agree s (PF f lv s.deep s.ts) (RP f lv s)
 | 0,lv,_,_,_,_,h=>by cases lv <;> simp only [offL] at h <;> omega
 | f+1, .expr,s,hk,hb,hd,hf=>by
  simp only [offL] at hf
  rw [PF,RP]
  have i1:=zabx f .term s.deep s.ts hk
  exact zah5 (N:=s.ts.length) (d:=s.deep) (fun us hu=>zabx f .term s.deep us hu) (fun s' h1 h2 h3 h4=>by
   have:=zajN f .term s' h1 h2 (by omega) (by simp only [offL]; omega)
   rw [h3] at this; exact this) zasH zasR rfl f _ _ i1.1 i1.2 (zajN f .term s hk hb hd (by simp only [offL]; omega))
 | f+1, .term,s,hk,hb,hd,hf=>by
  simp only [offL] at hf
  rw [PF,RP]
  have i1:=zabx f .part s.deep s.ts hk
  exact zah5 (N:=s.ts.length) (d:=s.deep) (fun us hu=>zabx f .part s.deep us hu) (fun s' h1 h2 h3 h4=>by
   have:=zajN f .part s' h1 h2 (by omega) (by simp only [offL]; omega)
   rw [h3] at this; exact this) zasG (fun s x h=>zah8 h 9) rfl f _ _ i1.1 i1.2 (zajN f .part s hk hb hd (by simp only [offL]; omega))
 | f+1, .part,s,hk,hb,hd,hf=>by
  simp only [offL] at hf
  rw [PF,RP,zabb hb]
  simp only
  by_cases h:(zaac s.ts).kind=10
  · rw [if_neg (fun c=>c h),decide_eq_true h,if_pos rfl]
    have hl:=zacR hk (by omega)
    exact zalE (f:=fun d ts=>⟨.mk 5 (zaac s.ts).at_ 0 ByteArray.empty [(PF f .part d ts).n],(PF f .part d ts).e,(PF f .part d ts).ts⟩) (g:=fun s'=>addR ⟨5,(zaac s.ts).at_,0,ByteArray.empty,[(RP f .part s').1]⟩ (upR (RP f .part s').2)) hb hd fun hd2 =>
      zask (zajN f .part { s with deep:=s.deep+1,ts:=zaas s.ts } (zaay hk).1 hb (by show s.deep+1<=24; omega) (by show 5*(zaas s.ts).length+offL .part<=f; simp only [offL]; omega)) 5 _
  · rw [if_pos h,decide_eq_false h,if_neg ff]
    exact zajN f .ranged s hk hb hd (by simp only [offL]; omega)
 | f+1, .ranged,s,hk,hb,hd,hf=>by
  simp only [offL] at hf
  rw [PF,RP,zabb hb]
  simp only
  by_cases h:(zaac s.ts).kind=5
  · rw [if_pos h,decide_eq_true h,if_pos rfl]
    have hl:=zacR hk (by omega)
    exact zalE (f:=fun d ts=>⟨.mk 6 (zaac s.ts).at_ 0 ByteArray.empty [(PF f .atom d ts).n],(PF f .atom d ts).e,(PF f .atom d ts).ts⟩) (g:=fun s'=>addR ⟨6,(zaac s.ts).at_,0,ByteArray.empty,[(RP f .atom s').1]⟩ (upR (RP f .atom s').2)) hb hd fun hd2 =>
      zask (zajN f .atom { s with deep:=s.deep+1,ts:=zaas s.ts } (zaay hk).1 hb (by show s.deep+1<=24; omega) (by show 5*(zaas s.ts).length+offL .atom<=f; simp only [offL]; omega)) 6 _
  · rw [if_neg h,decide_eq_false h,if_neg ff]
    have ha:=zajN f .atom s hk hb hd (by simp only [offL]; omega)
    have ia:=zabx f .atom s.deep s.ts hk
    generalize PF f .atom s.deep s.ts=q at ha ia
    generalize RP f .atom s=a at ha
    rcases zabL ha with ⟨x,e1,e2⟩ | ⟨e1,xs,e2,e3⟩
    · rw [if_pos (show q.e≠none by rw [e1]; simp),zah8 e2,zah8 e2,if_neg ff,if_neg ff]
      exact zaaT e1 e2
    · rw [if_neg (show ¬q.e≠none by rw [e1]; simp)]
      obtain ⟨a1,a2⟩:=a
      have e2:a2=⟨q.ts,s.deep,s.out++xs,none⟩:=e2
      subst e2
      have e3:Rep (s.out++xs) a1 q.n:=e3
      have hb2:(⟨q.ts,s.deep,s.out++xs,none⟩:RS).bad=none:=rfl
      show Agree s _ (if isR 5 ⟨q.ts,s.deep,s.out++xs,none⟩=true then _ else _)
      rw [zabb hb2,zabb hb2]
      have t3:=zaay ia.1
      by_cases h5:(zaac q.ts).kind=5
      · rw [if_pos h5,decide_eq_true h5,if_pos rfl]
        have hl:=zacR ia.1 (by omega)
        by_cases hd2:s.deep=24
        · unfold zabI
          rw [if_pos hd2,zalF (s:=⟨q.ts,s.deep,s.out++xs,none⟩) hd2,if_neg ff]
          exact zaaT rfl (zabD (s:=⟨q.ts,s.deep,s.out++xs,none⟩) rfl 16)
        · unfold zabI
          rw [if_neg hd2,zah1 (s:=⟨q.ts,s.deep,s.out++xs,none⟩) (by show s.deep<24; omega),if_pos rfl]
          have hb3:(⟨zaas q.ts,s.deep+1,s.out++xs,none⟩:RS).bad=none:=rfl
          show Agree s (zacn (PF f .atom (s.deep+1)) 8 (zaac q.ts).at_ q.n false (zaas q.ts)) (if (isR 2 ⟨zaas q.ts,s.deep+1,s.out++xs,none⟩||isR 1 ⟨zaas q.ts,s.deep+1,s.out++xs,none⟩)=true then _ else _)
          rw [zabb hb3,zabb hb3]
          unfold zacn
          by_cases hn:(zaac (zaas q.ts)).kind≠2/\(zaac (zaas q.ts)).kind≠1
          · rw [if_pos ⟨rfl,hn.1,hn.2⟩]
            have e:(decide ((zaac (zaas q.ts)).kind=2)||decide ((zaac (zaas q.ts)).kind=1))=false:=by rw [decide_eq_false hn.1,decide_eq_false hn.2]; rfl
            show Agree s _ (if (decide ((zaac (zaas q.ts)).kind=2)||decide ((zaac (zaas q.ts)).kind=1))=true then _ else _)
            rw [e,if_neg ff]
            refine zac4 rfl ⟨xs++[⟨7,(zaac q.ts).at_,0,ByteArray.empty,[a1]⟩],?_,?_⟩
            · show (⟨zaas q.ts,s.deep+1-1,(s.out++xs)++_,none⟩:RS)=_
              rw [List.append_assoc]; congr 1; omega
            · show Rep _ (s.out++xs).length _
              rw [<-List.append_assoc]; exact zaiu e3
          · rw [if_neg (fun c=>hn ⟨c.2.1,c.2.2⟩)]
            have e:(decide ((zaac (zaas q.ts)).kind=2)||decide ((zaac (zaas q.ts)).kind=1))=true:=by
              rw [Bool.or_eq_true,decide_eq_true_eq,decide_eq_true_eq]
              by_cases g:(zaac (zaas q.ts)).kind=2
              · exact .inl g
              · right
                by_cases g2:(zaac (zaas q.ts)).kind=1
                · exact g2
                · exact absurd ⟨g,g2⟩ hn
            show Agree s _ (if (decide ((zaac (zaas q.ts)).kind=2)||decide ((zaac (zaas q.ts)).kind=1))=true then _ else _)
            rw [e,if_pos rfl]
            exact zare (s:=s) (s1:=⟨zaas q.ts,s.deep+1,s.out++xs,none⟩) (r1:=q) (q1:=(a1,⟨q.ts,s.deep,s.out++xs,none⟩)) (xs:=xs) e3 rfl (dd:=1) rfl
              (zajN f .atom ⟨zaas q.ts,s.deep+1,s.out++xs,none⟩ t3.1 rfl (by show s.deep+1<=24; omega) (by show 5*(zaas q.ts).length+offL .atom<=f; have:=ia.2; simp only [offL]; omega)) 8 _ upR (fun t=>rfl)
      · rw [if_neg h5,decide_eq_false h5,if_neg ff]
        by_cases h6:(zaac q.ts).kind=6
        · rw [if_pos h6,decide_eq_true h6,if_pos rfl]
          have hl:=zacR ia.1 (by omega)
          unfold zacn
          rw [if_neg (fun c=>by cases c.1)]
          exact zare (s:=s) (s1:=⟨zaas q.ts,s.deep,s.out++xs,none⟩) (r1:=q) (q1:=(a1,⟨q.ts,s.deep,s.out++xs,none⟩)) (xs:=xs) e3 rfl (dd:=0) (by show s.deep=s.deep+0; omega)
            (zajN f .atom ⟨zaas q.ts,s.deep,s.out++xs,none⟩ t3.1 rfl hd (by show 5*(zaas q.ts).length+offL .atom<=f; have:=ia.2; simp only [offL]; omega)) 9 _ (fun t=>t) (fun t=>by show t={ t with deep:=t.deep-0 }; rw [Int.sub_zero])
        · rw [if_neg h6,decide_eq_false h6,if_neg ff]
          exact zac4 rfl ⟨xs,rfl,e3⟩
 | f+1, .atom,s,hk,hb,hd,hf=>by
  simp only [offL] at hf
  rw [PF,RP,zabb hb,zabb hb]
  simp only
  have h1:=zaay hk
  by_cases h2:(zaac s.ts).kind=2
  · rw [if_pos h2,decide_eq_true h2,if_pos rfl]
    have hl:=zacR hk (by omega)
    refine zalE (f:=fun d ts=>if (PF f .expr d ts).e≠none then PF f .expr d ts else ⟨(PF f .expr d ts).n,(zaaV 3 (PF f .expr d ts).ts).1,(zaaV 3 (PF f .expr d ts).ts).2⟩) (g:=fun s'=>((RP f .expr s').1,upR (zabs 3 (RP f .expr s').2).2)) hb hd fun hd2 => ?_
    have hq:=zajN f .expr { s with deep:=s.deep+1,ts:=zaas s.ts } h1.1 hb (by show s.deep+1<=24; omega) (by show 5*(zaas s.ts).length+offL .expr<=f; simp only [offL]; omega)
    have hq:Agree { s with deep:=s.deep+1,ts:=zaas s.ts } (PF f .expr (s.deep+1) (zaas s.ts)) (RP f .expr { s with deep:=s.deep+1,ts:=zaas s.ts }):=hq
    generalize PF f .expr (s.deep+1) (zaas s.ts)=q at hq
    generalize RP f .expr { s with deep:=s.deep+1,ts:=zaas s.ts }=a at hq
    rcases zabL hq with ⟨x,e1,e2⟩ | ⟨e1,xs,e2,e3⟩
    · rw [if_pos (show q.e≠none by rw [e1]; simp)]
      exact zaaT e1 (by show (upR (zabs 3 a.2).2).bad=_; rw [zagl e2]; exact e2)
    · rw [if_neg (show ¬q.e≠none by rw [e1]; simp),e2]
      rcases zaj5 (k:=3) (s:=⟨q.ts,s.deep+1,s.out++xs,none⟩) rfl with ⟨g1,g2⟩ | ⟨x,g1,_,g3⟩
      · refine zac4 g1 ⟨xs,?_,e3⟩
        show upR (zabs 3 ⟨q.ts,s.deep+1,s.out++xs,none⟩).2=_
        rw [g2]
        simp only [upR]
        congr 1; omega
      · exact zaaT g1 (zajf g3)
  · rw [if_neg h2,decide_eq_false h2,if_neg ff]
    by_cases hw:(zaac s.ts).kind=1
    · rw [if_pos hw,decide_eq_true hw,if_pos rfl]
      have hl:=zacR hk (by omega)
      have h3:=zaay h1.1
      by_cases ho:(zaac (zaas s.ts)).kind=2
      · rw [if_pos ho,if_neg (fun c=>c ho)]
        have hl2:=zacR h1.1 (by omega)
        unfold zavM
        simp only
        by_cases f0:zaaH (zaac s.ts).text=0
        · rw [if_pos f0,if_pos f0]; exact zaaT rfl (zabD hb 15)
        · rw [if_neg f0,if_neg f0]
          unfold zabI
          by_cases hd2:s.deep=24
          · rw [if_pos hd2,zalF (s:=zaaB s) hd2,if_neg ff]
            exact zaaT rfl (zabD (s:=zaaB s) hb 16)
          · rw [if_neg hd2,zah1 (s:=zaaB s) (by show s.deep<24; omega),if_pos rfl]
            have eb:({ zaaB s with deep:=(zaaB s).deep+1,ts:=zaas (zaaB s).ts }:RS)=⟨zaas (zaas s.ts),s.deep+1,s.out,none⟩:=by
              show (⟨zaas (zaas s.ts),s.deep+1,s.out,s.bad⟩:RS)=_; rw [hb]
            simp only [eb]
            have hq:=zajN f .expr ⟨zaas (zaas s.ts),s.deep+1,s.out,none⟩ h3.1 rfl (by show s.deep+1<=24; omega) (by show 5*(zaas (zaas s.ts)).length+offL .expr<=f; simp only [offL]; omega)
            have hq:Agree ⟨zaas (zaas s.ts),s.deep+1,s.out,none⟩ (PF f .expr (s.deep+1) (zaas (zaas s.ts))) (RP f .expr ⟨zaas (zaas s.ts),s.deep+1,s.out,none⟩):=hq
            by_cases f1:zaaH (zaac s.ts).text=1
            · rw [if_pos f1,if_pos f1,if_neg (by omega)]
              have e0:s.out=s.out++[]:=(List.append_nil _).symm
              show Agree s ⟨.mk 10 _ 0 _ [],_,_⟩ (addR _ (upR (zabs 3 ⟨zaas (zaas s.ts),s.deep+1,s.out,none⟩).2))
              rw [show (⟨zaas (zaas s.ts),s.deep+1,s.out,none⟩:RS)=⟨zaas (zaas s.ts),s.deep+1,s.out++[],none⟩ by rw [List.append_nil]]
              exact zah4 zanD
            · rw [if_neg f1,if_neg f1]
              generalize PF f .expr (s.deep+1) (zaas (zaas s.ts))=q at hq
              generalize RP f .expr ⟨zaas (zaas s.ts),s.deep+1,s.out,none⟩=a at hq
              rcases zabL hq with ⟨x,e1,e2⟩ | ⟨e1,xs,e2,e3⟩
              · rw [if_pos (show q.e≠none by rw [e1]; simp)]
                refine zaaT e1 ?_
                by_cases f3:zaaH (zaac s.ts).text=3
                · rw [if_pos f3]
                  have c1:(zabs 4 a.2).1=false:=by unfold zabs; rw [zah8 e2]; rfl
                  simp only [c1,zagl e2]
                  exact zaeS (zajf e2)
                · rw [if_neg f3]; simp only [zagl e2]; exact zaeS (zajf e2)
              · rw [if_neg (show ¬q.e≠none by rw [e1]; simp)]
                obtain ⟨a1,a2⟩:=a
                have e2:a2=⟨q.ts,s.deep+1,s.out++xs,none⟩:=e2
                subst e2
                have e3:Rep (s.out++xs) a1 q.n:=e3
                by_cases f2:zaaH (zaac s.ts).text=2
                · rw [if_pos f2,if_neg (by omega)]
                  exact zah4 (zaiu e3)
                · have f3:zaaH (zaac s.ts).text=3:=by have:=zaiY (zaac s.ts).text; omega
                  rw [if_neg f2,if_pos f3]
                  rcases zaj5 (k:=4) (s:=⟨q.ts,s.deep+1,s.out++xs,none⟩) rfl with ⟨g1,g2⟩ | ⟨x,g1,g2,g3⟩
                  · have g1:(zaaV 4 q.ts).1=none:=g1
                    rw [if_neg (show ¬(zaaV 4 q.ts).1≠none by rw [g1]; simp)]
                    simp only [g2]
                    have hb4:(⟨(zaaV 4 q.ts).2,s.deep+1,s.out++xs,none⟩:RS).bad=none:=rfl
                    rw [if_pos trivial]
                    show Agree s _ (match (if isR 1 ⟨(zaaV 4 q.ts).2,s.deep+1,s.out++xs,none⟩=true then zaez (zaac (zaaV 4 q.ts).2) else none) with | none=>_ | some k=>_)
                    rw [zabb hb4]
                    by_cases n1:(zaac (zaaV 4 q.ts).2).kind=1
                    · rw [decide_eq_true n1,if_pos rfl]
                      cases hn:zaez (zaac (zaaV 4 q.ts).2) with
                      | none=>exact zaaT rfl (zabD (s:=⟨(zaaV 4 q.ts).2,s.deep+1,s.out++xs,none⟩) rfl 15)
                      | some k=>exact zah4 (zaiu e3)
                    · have hn:zaez (zaac (zaaV 4 q.ts).2)=none:=if_neg (fun c=>n1 c.1)
                      rw [decide_eq_false n1,if_neg ff,hn]
                      exact zaaT rfl (zabD (s:=⟨(zaaV 4 q.ts).2,s.deep+1,s.out++xs,none⟩) rfl 15)
                  · have g1:(zaaV 4 q.ts).1=some x:=g1
                    rw [if_pos (show (zaaV 4 q.ts).1≠none by rw [g1]; simp)]
                    refine zaaT g1 ?_
                    simp only [g2,zagl g3]
                    exact zaeS (zajf g3)
      · rw [if_neg ho,if_pos ho]
        by_cases hp:zaar (zaac s.ts).text=true
        · rw [if_pos hp,if_pos hp]
          refine zac4 rfl ⟨[⟨1,(zaac s.ts).at_,0,(zaac s.ts).text,[]⟩],?_,zanD⟩
          show (⟨zaas s.ts,s.deep,s.out++_,s.bad⟩:RS)=_
          rw [hb]
        · rw [if_neg hp,if_neg hp]; exact zaaT rfl (zabD hb 15)
    · rw [if_neg hw,decide_eq_false hw,if_neg ff]
      exact zaaT rfl (zabD hb 15)
end Go.TP
end
section
namespace Go.TP
open Go.AS
structure RI (n:Nat) (k:Int) (s t:RS):Prop where
 suf:t.ts <:+ s.ts
 ok:okT t.ts
 len:t.out.length+t.ts.length+n<=s.out.length+s.ts.length
 bad:∀ p,t.bad=some p->p.1≠0
 dn:t.bad=none->t.deep=s.deep+k
 d0:s.deep+k<=t.deep
 d1:t.deep<=s.deep+k+1
theorem RI.refl {s:RS}(h:okT s.ts)(hb:∀ p,s.bad=some p->p.1≠0):RI 0 0 s s :=
 ⟨List.suffix_refl _,h,Nat.le_refl _,hb,fun _=>by omega,by omega,by omega⟩
theorem RI.trans {n m:Nat}{k j:Int}{s t u:RS}(h:RI n k s t)(hb:t.bad=none)(g:RI m j t u):RI (n+m) (k+j) s u:=by
 have e:=h.dn hb
 have l1:=h.len
 have l2:=g.len
 have d0:=g.d0
 have d1:=g.d1
 exact ⟨g.suf.trans h.suf,g.ok,by omega,g.bad,fun hu=>by have:=g.dn hu; omega,by omega,by omega⟩
theorem RI.fail {n:Nat}{k:Int}{s t:RS}(h:RI n k s t){e:Int}(he:e≠0):RI n k s (zaaW e t):=by
 unfold zaaW
 split
 · exact ⟨h.suf,h.ok,h.len,fun p hp=>by cases hp; exact he,fun hc=>(nomatch hc),h.d0,h.d1⟩
 · exact h
theorem zakb:∀ ts:List Tk,zaas ts <:+ ts
 | []=>List.suffix_refl _
 | t::r=>by
  show (if t.kind=11 then t::r else r) <:+ _
  split
  · exact List.suffix_refl _
  · exact List.suffix_cons ..
theorem zabk {ts:List Tk}(h:okT ts)(hk:(zaac ts).kind≠11):(zaas ts).length+1=ts.length:=by
 cases ts with
 | nil=>exact h.elim
 | cons t r =>
  have:zaas (t::r)=r:=if_neg hk
  rw [this]; rfl
theorem zakc {ts:List Tk}(h:okT ts):okT (zaas ts):=by
 cases ts with
 | nil=>exact h.elim
 | cons t r =>
  show okT (if t.kind=11 then t::r else r)
  split
  · exact h
  · rename_i hk
    cases r with
    | nil=>exact absurd h.2 hk
    | cons u r=>exact h.2.2
theorem RI.take {n:Nat}{k:Int}{s t:RS}(h:RI n k s t)(hk:(zaac t.ts).kind≠11):RI (n+1) k s (zaaB t):=by
 have l:=h.len
 have l2:=zabk h.ok hk
 exact ⟨(zakb _).trans h.suf,zakc h.ok,by show t.out.length+(zaas t.ts).length+(n+1)<=_; omega,h.bad,h.dn,h.d0,h.d1⟩
theorem RI.down {n:Nat}{k:Int}{s t:RS}(h:RI n k s t)(hk:(zaac t.ts).kind≠11):RI (n+1) (k+1) s { t with deep:=t.deep+1,ts:=zaas t.ts }:=by
 have l:=h.len
 have l2:=zabk h.ok hk
 have d0:=h.d0
 have d1:=h.d1
 exact ⟨(zakb _).trans h.suf,zakc h.ok,by show t.out.length+(zaas t.ts).length+(n+1)<=_; omega,h.bad,fun hb=>by have:=h.dn hb; show t.deep+1=_; omega,by show _<=t.deep+1; omega,by show t.deep+1<=_; omega⟩
theorem RI.up {n:Nat}{k:Int}{s t:RS}(h:RI n (k+1) s t):RI n k s (upR t):=by
 have d0:=h.d0
 have d1:=h.d1
 exact ⟨h.suf,h.ok,h.len,h.bad,fun hb=>by have:=h.dn hb; show t.deep-1=_; omega,by show _<=t.deep-1; omega,by show t.deep-1<=_; omega⟩
theorem RI.add {n:Nat}{k:Int}{s t:RS}(h:RI (n+1) k s t)(x:RN):RI n k s (addR x t).2:=by
 have l:=h.len
 exact ⟨h.suf,h.ok,by show (t.out++[x]).length+t.ts.length+n<=_; rw [List.length_append]; show t.out.length+1+_+_<=_; omega,h.bad,h.dn,h.d0,h.d1⟩
theorem RI.less {n m:Nat}{k:Int}{s t:RS}(h:RI n k s t)(hm:m<=n):RI m k s t:=by
 have l:=h.len
 exact ⟨h.suf,h.ok,by omega,h.bad,h.dn,h.d0,h.d1⟩
theorem zaaw {k:Int}{s:RS}(h:isR k s=true):s.bad=none/\(zaac s.ts).kind=k:=by
 unfold isR at h
 rw [Bool.and_eq_true,decide_eq_true_iff] at h
 exact ⟨by cases hb:s.bad with | none=>rfl | some _=>rw [hb] at h; exact (nomatch h.1),h.2⟩
theorem RI.want {n:Nat}{k:Int}{s t:RS}(h:RI n k s t){c:Int}(hc:c≠11):RI n k s (zabs c t).2:=by
 unfold zabs
 cases hb:isR c t with
 | true=>exact (h.take (by rw [(zaaw hb).2]; exact hc)).less (Nat.le_succ n)
 | false=>exact h.fail (by decide)
theorem RI.early {n:Nat}{s t:RS}(h:RI n 1 s t)(hb:t.bad=none){e:Int}(he:e≠0):RI n 0 s (zaaW e t):=by
 have d:=h.dn hb
 unfold zaaW
 rw [hb]
 exact ⟨h.suf,h.ok,h.len,fun p hp=>by cases hp; exact he,fun hc=>(nomatch hc),by show s.deep+0<=t.deep; omega,by show t.deep<=_; omega⟩
theorem RI.downR {n:Nat}{k:Int}{s t:RS}(h:RI n k s t)(hk:(zaac t.ts).kind≠11)(f:RS->Nat × RS)(hf:∀ u,RI (n+1) (k+1) s u->(t.bad=none->u.bad=none)->RI n k s (f u).2) :
  RI n k s (if (downR t).1 then f (downR t).2 else (0,(downR t).2)).2:=by
 unfold Go.TP.downR
 by_cases hd:24<=t.deep
 · rw [if_pos hd]; exact h.fail (by decide)
 · rw [if_neg hd]; exact hf _ (h.down hk) fun hb=>hb
theorem zah7 {part:RS->Nat × RS} {km:Int->Int} {is:RS->Bool} (hi:∀ s,is s=true->s.bad=none/\(zaac s.ts).kind≠11)
  (hp:∀ s,okT s.ts->(∀ p,s.bad=some p->p.1≠0)->RI 0 0 s (part s).2) {s:RS}:∀ (f:Nat) (r:Nat × RS),RI 0 0 s r.2->RI 0 0 s (zabU part km is f r).2
 | 0,r,h=>h
 | f+1,r,h=>by
  rw [zabU]
  cases hb:is r.2 with
  | false=>exact h
  | true =>
   obtain ⟨h1,h2⟩:=hi _ hb
   have g:=h.take h2
   have q:=g.trans h1 (hp _ g.ok g.bad)
   exact zah7 hi hp f _ (q.add _)
theorem zapP (s:RS)(h:isE s=true):s.bad=none/\(zaac s.ts).kind≠11:=by
 unfold isE at h
 rw [Bool.or_eq_true] at h
 rcases h with h | h
 · obtain ⟨h1,h2⟩:=zaaw h; exact ⟨h1,by rw [h2]; decide⟩
 · obtain ⟨h1,h2⟩:=zaaw h; exact ⟨h1,by rw [h2]; decide⟩
theorem zadq:∀ (f:Nat) (lv:Lv) (s:RS),okT s.ts->(∀ p,s.bad=some p->p.1≠0)->RI 0 0 s (RP f lv s).2
 | 0,_,s,h,hb => .refl h hb
 | f+1, .expr,s,h,hb=>by
  rw [RP]
  exact zah7 zapP (fun t h1 h2=>zadq f .term t h1 h2) f _ (zadq f .term s h hb)
 | f+1, .term,s,h,hb=>by
  rw [RP]
  exact zah7 (fun t ht=>by obtain ⟨h1,h2⟩:=zaaw ht; exact ⟨h1,by rw [h2]; decide⟩) (fun t h1 h2=>zadq f .part t h1 h2) f _ (zadq f .part s h hb)
 | f+1, .part,s,h,hb=>by
  rw [RP]
  cases hi:isR 10 s with
  | false=>exact zadq f .ranged s h hb
  | true =>
   obtain ⟨h1,h2⟩:=zaaw hi
   refine RI.downR (.refl h hb) (by rw [h2]; decide) (fun u=>addR _ (upR (RP f .part u).2)) fun u hu hn => ?_
   exact ((hu.trans (hn h1) (zadq f .part u hu.ok hu.bad)).up).add _
 | f+1, .ranged,s,h,hb=>by
  rw [RP]
  cases hi:isR 5 s with
  | true =>
   obtain ⟨h1,h2⟩:=zaaw hi
   refine RI.downR (.refl h hb) (by rw [h2]; decide) (fun u=>addR _ (upR (RP f .atom u).2)) fun u hu hn => ?_
   exact ((hu.trans (hn h1) (zadq f .atom u hu.ok hu.bad)).up).add _
  | false =>
   have ha:=zadq f .atom s h hb
   simp only [Bool.false_eq_true,if_false]
   cases h5:isR 5 (RP f .atom s).2 with
   | true =>
    obtain ⟨h1,h2⟩:=zaaw h5
    simp only [if_true]
    refine RI.downR ha (by rw [h2]; decide) (fun u=>if isR 2 u||isR 1 u then addR _ (upR (RP f .atom u).2) else addR _ (upR u)) fun u hu hn => ?_
    split
    · exact ((hu.trans (hn h1) (zadq f .atom u hu.ok hu.bad)).up).add _
    · exact hu.up.add _
   | false =>
    simp only [Bool.false_eq_true,if_false]
    cases h6:isR 6 (RP f .atom s).2 with
    | true =>
     obtain ⟨h1,h2⟩:=zaaw h6
     simp only [if_true]
     have g:=ha.take (by rw [h2]; decide)
     exact (g.trans h1 (zadq f .atom _ g.ok g.bad)).add _
    | false=>exact ha
 | f+1, .atom,s,h,hb=>by
  rw [RP]
  have h0:RI 0 0 s s := .refl h hb
  cases hi:isR 2 s with
  | true =>
   obtain ⟨h1,h2⟩:=zaaw hi
   refine RI.downR h0 (by rw [h2]; decide) (fun u=>((RP f .expr u).1,upR (zabs 3 (RP f .expr u).2).2)) fun u hu hn => ?_
   exact ((hu.trans (hn h1) (zadq f .expr u hu.ok hu.bad)).want (by decide)).up.less (Nat.zero_le _)
  | false =>
   simp only [Bool.false_eq_true,if_false]
   cases h1w:isR 1 s with
   | false=>exact h0.fail (by decide)
   | true =>
    obtain ⟨h1,h2⟩:=zaaw h1w
    have g:=h0.take (by rw [h2]; decide)
    simp only [if_true]
    split
    · split
      · exact g.add _
      · exact h0.fail (by decide)
    · rename_i hk2
      have hk2:(zaac (zaas s.ts)).kind=2:=Decidable.not_not.1 hk2
      split
      · exact h0.fail (by decide)
      · have g0:RI 0 0 s (zaaB s):=g.less (Nat.zero_le _)
        have key:∀ (u:RS),RI 1 1 s u->u.bad=none->∀ q:List Nat × RS,q=(if zaaH (zaac s.ts).text=1 then ([],u) else ([(RP f .expr u).1],(RP f .expr u).2))->RI 1 1 s q.2:=by
          intro u hu hn q hq
          subst hq
          split
          · exact hu
          · exact hu.trans hn (zadq f .expr u hu.ok hu.bad)
        unfold Go.TP.downR
        by_cases hd:24<=(zaaB s).deep
        · rw [if_pos hd]; exact g0.fail (by decide)
        · rw [if_neg hd]
          have gd:RI 1 1 s { zaaB s with deep:=(zaaB s).deep+1,ts:=zaas (zaaB s).ts }:=g0.down (by show (zaac (zaas s.ts)).kind≠11; rw [hk2]; decide)
          have gq:=key _ gd h1 _ rfl
          simp only [if_true]
          generalize hq:(if zaaH (zaac s.ts).text=1 then (([]:List Nat),({ zaaB s with deep:=(zaaB s).deep+1,ts:=zaas (zaaB s).ts }:RS)) else ([(RP f .expr { zaaB s with deep:=(zaaB s).deep+1,ts:=zaas (zaaB s).ts }).1],(RP f .expr { zaaB s with deep:=(zaaB s).deep+1,ts:=zaas (zaaB s).ts }).2))=q at gq ⊢
          split
          · split
            · rename_i hw
              have hw4:(zabs 4 q.2).2.bad=none/\RI 1 1 s (zabs 4 q.2).2:=by
                refine ⟨?_,gq.want (by decide)⟩
                unfold zabs at hw ⊢
                cases hb4:isR 4 q.2 with
                | true=>exact (zaaw hb4).1
                | false=>rw [hb4] at hw; exact nomatch hw
              split
              · exact (hw4.2.less (Nat.zero_le _)).early hw4.1 (by decide)
              · rename_i m hm
                have hk1:isR 1 (zabs 4 q.2).2=true:=by
                  cases hb1:isR 1 (zabs 4 q.2).2 with
                  | true=>rfl
                  | false=>rw [hb1] at hm; exact nomatch hm
                have g5:=(hw4.2.take (by rw [(zaaw hk1).2]; decide)).less (Nat.le_succ 1)
                exact ((g5.want (by decide)).up).add _
            · exact (((gq.want (by decide)).want (by decide)).up).add _
          · exact ((gq.want (by decide)).up).add _
end Go.TP
end
section
namespace Go.Proofs.YtpofhijgccocpaaGreatDoor
open Go.AS Go.TP
noncomputable section
def xE (n:RN):AV:=rgV n.kind n.at_ n.n n.text (n.kids.map fun j:Nat=>i0 (j:Int))
def badE (s:RS):Int:=match s.bad with | none=>0 | some p=>p.1
def badP (s:RS):Int:=match s.bad with | none=>0 | some p=>p.2
def xS (c:Nat)(all:List Tk)(s:RS):Hp:=xHp c (all.map encT) ((all.length:Int)-s.ts.length) s.deep (s.out.map xE) (badE s) (badP s)
structure XInv (all:List Tk) (s:RS):Prop where
 suf:s.ts <:+ all
 ok:okT s.ts
 bad:∀ p,s.bad=some p->p.1≠0
 d0:0<=s.deep
 d1:s.deep<=26
 la:all.length<=1000000
 lo:s.out.length+s.ts.length<=1000000
theorem zamV {X:WX}(hX:X.Sound)(hp:X.px=X0){f:Nat}(hs:(Tryz.prog.funcs[f]?).isSome=true)(hb:(fn f).body=some (code f))(hn:((fn f).name == "runtime.NumGoroutine")=false){os:Orc}{ys:List AV}{σ:Hp}{r:Back}(h:gY X f os ys σ r):FOk Tryz.prog gl0 f (xArg::ys) σ r:=by
 have hP:X.px.P=Tryz.prog:=by rw [hp]; rfl
 have hg:X.px.gl=gl0:=by rw [hp]; rfl
 have:=zadS (X:=X) (d:=14) hX (f:=f) (fn:=fn f) (code:=code f) (by show X.px.P.funcs[f]?=_; rw [hP]; exact fnOk f hs) hb hn h
 rw [<-hg,<-hP]; exact this
theorem zaz6:XI.Sound:=(zabg.ask _).askAt _ _
theorem zavT:XFl.Sound:=(zabg.ask _).askAt _ _
theorem zaxD:XAd.Sound:=(zabg.ask _).askAt _ _
theorem shpI (k a:Int)(x:ByteArray):zaak (Cx.B (cxV XI 14 fXIs)) shN 124 (.agg [i0 k,i0 a,s0 x])=true:=by kernel_rfl
theorem zaAn (k a:Int)(x:ByteArray):zaak (Cx.B (cxV XFl 14 zabB)) shN 124 (.agg [i0 k,i0 a,s0 x])=true:=by kernel_rfl
theorem zal4 {all:List Tk}{s:RS}(h:XInv all s)(z:AV):(all.map encT).getD ((all.length:Int)-s.ts.length).toNat z=encT (zaac s.ts)/\(0:Int)<=(all.length:Int)-s.ts.length/\(all.length:Int)-s.ts.length<((all.map encT).length:Int):=by
 obtain ⟨p,hp⟩:=h.suf
 have hne:=zakM h.ok
 cases hts:s.ts with
 | nil=>exact absurd hts hne
 | cons t r =>
  rw [hts] at hp
  subst hp
  have e:(((p++t::r).length:Int)-((t::r).length:Nat))=(p.length:Int):=by
   rw [List.length_append]; push_cast; omega
  rw [e]
  refine ⟨?_,by omega,?_⟩
  · rw [Int.toNat_natCast,List.map_append,List.getD_eq_getElem?_getD,List.getElem?_append_right (by rw [List.length_map]; exact Nat.le_refl _),List.length_map,Nat.sub_self]
    rfl
  · rw [List.length_map,List.length_append]; simp only [List.length_cons]; omega
attribute [local irreducible] runF in
set_option maxRecDepth 100000 in
theorem zaon {all:List Tk}{s:RS}(h:XInv all s)(c:Int):FOk Tryz.prog gl0 fXIs [xArg,i0 c] (xS 0 all s) ⟨b0 (isR c s),xS 0 all s,[]⟩:=by
 obtain ⟨t1,t2,t3⟩:=zal4 h (AV.lit (Value.tuple ⟨[]⟩))
 cases hb:s.bad with
 | none =>
  have e1:badE s=0:=by unfold badE; rw [hb]
  have e2:isR c s=((zaac s.ts).kind==c):=by
   unfold isR; rw [hb]; simp only [Option.isNone_none,Bool.true_and]
   by_cases g:(zaac s.ts).kind=c
   · rw [decide_eq_true g,g]; simp
   · rw [decide_eq_false g]; simp [g]
  have g:=zawh (all.map encT) ((all.length:Int)-s.ts.length) s.deep (s.out.map xE) (badP s) c (isR c s)
  have q:xIs _ _ _ _ _ _ _ _:=g.mpr (by
   refine ⟨rfl,rfl,rfl,rfl,rfl,rfl,rfl,rfl,rfl,?_,rfl,rfl,rfl,rfl,?_, .rfl⟩
   · rw [t1,decide_eq_true ⟨t2,t3⟩]
     show (true&&(true&&(zaak _ shN 124 (.agg [i0 _,i0 _,s0 _])&&(true||false))))=true
     rw [shpI]; rfl
   · rw [t1,e2]; exact .refl _)
  unfold xS
  rw [e1]
  exact zamV zaz6 rfl (by kernel_rfl) (by kernel_rfl) (by kernel_rfl) q
 | some p =>
  have e2:isR c s=false:=by unfold isR; rw [hb]; rfl
  have e3:badE s≠0:=by unfold badE; rw [hb]; exact h.bad p hb
  rw [e2]
  have q:xIsB _ _ _ _ _ _ _ _:=(zaq2 (all.map encT) ((all.length:Int)-s.ts.length) s.deep (s.out.map xE) (badE s) (badP s) c).mpr
   ⟨beq_false_of_ne e3,rfl,rfl,rfl,rfl,rfl,rfl,rfl,rfl,rfl,rfl,rfl,rfl, .refl _, .rfl⟩
  exact zamV zaz6 rfl (by kernel_rfl) (by kernel_rfl) (by kernel_rfl) q
attribute [local irreducible] runF in
set_option maxRecDepth 100000 in
theorem zahi {all:List Tk}{s:RS}(h:XInv all s)(e:Int):FOk Tryz.prog gl0 zabB [xArg,i0 e] (xS 0 all s) ⟨i0 0,xS 0 all (zaaW e s),[1048578]⟩:=by
 obtain ⟨t1,t2,t3⟩:=zal4 h (AV.lit (Value.tuple ⟨[]⟩))
 cases hb:s.bad with
 | none =>
  have e1:badE s=0:=by unfold badE; rw [hb]
  have ef:zaaW e s={ s with bad:=some (e,(zaac s.ts).at_) }:=by unfold zaaW; rw [hb]
  have q:zaxI _ _ _ _ _ _ _ _:=(zaoo (all.map encT) ((all.length:Int)-s.ts.length) s.deep (s.out.map xE) (badP s) e (zaac s.ts).at_).mpr (by
   refine ⟨rfl,?_, .refl _,?_⟩
   · rw [t1,decide_eq_true ⟨t2,t3⟩]
     show (true&&(true&&(zaak _ shN 124 (.agg [i0 _,i0 _,s0 _])&&(true||false))))=true
     rw [zaAn]; rfl
   · rw [t1]; exact .rfl)
  rw [ef]
  unfold xS
  rw [e1]
  exact zamV zavT rfl (by kernel_rfl) (by kernel_rfl) (by kernel_rfl) q
 | some p =>
  have e3:badE s≠0:=by unfold badE; rw [hb]; exact h.bad p hb
  have ef:zaaW e s=s:=by unfold zaaW; rw [hb]
  have q:zaq3 _ _ _ _ _ _ _ _:=(zal8 (all.map encT) ((all.length:Int)-s.ts.length) s.deep (s.out.map xE) (badE s) (badP s) e).mpr ⟨beq_false_of_ne e3, .refl _, .rfl⟩
  have g:=zamV zavT rfl (by kernel_rfl) (by kernel_rfl) (by kernel_rfl) q
  rw [ef]
  exact g.more (fun k hk=>(nomatch hk))
end
end Go.Proofs.YtpofhijgccocpaaGreatDoor
end
