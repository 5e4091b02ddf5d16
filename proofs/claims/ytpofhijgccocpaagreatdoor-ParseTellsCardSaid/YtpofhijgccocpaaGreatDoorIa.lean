/- Parts of the proof of ParseTells. -/
import Derived.Test.YtpofhijgccocpaaGreatDoorAWh
import Derived.Test.YtpofhijgccocpaaGreatDoorChecked
import Derived.Test.YtpofhijgccocpaaGreatDoorAWm
import Derived.Test.YtpofhijgccocpaaGreatDoorASlaw
import Derived.Shelf.LaysM
import Derived.Shelf.Strconv.Itoa3
import Derived.Shelf.LaysC
import Derived.Shelf.Strconv.AtoiAll
import Derived.Test.YtpofhijgccocpaaGreatDoorProg
set_option maxRecDepth 100000
section
namespace Go.Proofs.YtpofhijgccocpaaGreatDoor
abbrev zajK:Nat:=10
abbrev zab6:Nat:=41
abbrev zaaQ:Nat:=78
abbrev zabd:Nat:=79
abbrev zauV:Nat:=12
abbrev zaBH:Nat:=108
abbrev zacg:Nat:=20
abbrev zao1:Nat:=17
abbrev zadE:Nat:=16
abbrev zaAm:Nat:=46
abbrev zaBG:Nat:=43
abbrev zao3:Nat:=44
abbrev fTextN:Nat:=47
abbrev zajL:Nat:=83
abbrev zaf4:Nat:=84
abbrev zao4:Nat:=110
abbrev zao6:Nat:=45
abbrev zaAr:Nat:=82
abbrev zamF:Nat:=80
abbrev zaaf:Nat:=81
abbrev zaug:Nat:=109
abbrev fLex:Nat:=51
abbrev fOne:Nat:=86
abbrev zad6:Nat:=113
abbrev zajJ:Nat:=114
abbrev zaBF:Nat:=115
abbrev zamC:Nat:=130
abbrev zamE:Nat:=85
abbrev zabO:Nat:=129
abbrev zaC9:Nat:=131
abbrev zaC8:Nat:=141
abbrev fAt:Nat:=87
abbrev zaC6:Nat:=91
abbrev zacv:Nat:=52
abbrev zafa:Nat:=89
abbrev zad7:Nat:=116
abbrev zaAn:Nat:=134
abbrev zaaP:Nat:=132
abbrev zao2:Nat:=144
abbrev zaa8:Nat:=143
abbrev fPChain:Nat:=88
abbrev zaiK:Nat:=53
abbrev zaue:Nat:=90
abbrev zafD:Nat:=92
abbrev zaud:Nat:=133
abbrev fPUp:Nat:=142
abbrev zaHu:Nat:=153
abbrev zaiJ:Nat:=145
abbrev zaAp:Nat:=154
abbrev zauf:Nat:=163
abbrev zaC7:Nat:=155
abbrev zaAo:Nat:=164
abbrev zaAs:Nat:=156
abbrev zaaw:Nat:=165
abbrev zah1:Nat:=168
abbrev zai:Nat:=26
abbrev zavm:Nat:=118
abbrev zab2:Nat:=221
abbrev zala:Nat:=211
abbrev zaei:Nat:=5
abbrev gPow:Nat:=2
abbrev zao5:Nat:=111
abbrev zahK:Nat:=6
end Go.Proofs.YtpofhijgccocpaaGreatDoor
end
section
namespace Go.TP
open Go.AS
structure Tk where
 kind:Int
 at_:Int
 text:ByteArray
inductive Nd where
 | mk (kind at_ n:Int) (text:ByteArray) (kids:List Nd)
namespace Nd
def kind:Nd->Int|mk k _ _ _ _=>k
def at_:Nd->Int|mk _ a _ _ _=>a
def num:Nd->Int|mk _ _ n _ _=>n
def text:Nd->ByteArray|mk _ _ _ t _=>t
def kids:Nd->List Nd|mk _ _ _ _ ks=>ks
end Nd
def Nd.zero:Nd := .mk 0 0 0 ByteArray.empty []
structure R where
 n:Nd
 e:Option (Int × Int)
 ts:List Tk
def zaab:List Tk->Tk
 | []=>⟨11,0,ByteArray.empty⟩
 | t::_=>t
def zaal:List Tk->List Tk
 | []=>[]
 | t::r=>if t.kind=11 then t::r else r
def zakT (ts:List Tk):Option (Int × Int):=some (15,(zaab ts).at_)
def zaaL (part:List Tk->R)(km:Int->Int):Nat->R->R
 | 0,r=>r
 | n+1,r=>if r.e=none/\km (zaab r.ts).kind≠0 then
   let t:=zaab r.ts
   let q:=part (zaal r.ts)
   zaaL part km n ⟨.mk (km t.kind) t.at_ 0 ByteArray.empty [r.n,q.n],q.e,q.ts⟩
  else r
def kmE (k:Int):Int:=if k=7 then 2 else if k=8 then 3 else 0
def kmT (k:Int):Int:=if k=9 then 4 else 0
end Go.TP
namespace Go.TP
open Go.AS
def zaaB (s:ByteArray):Int :=
 if s=⟨#[97,108,108]⟩∨s=⟨#[110,111,110,101]⟩∨s=⟨#[109,97,115,116,101,114]⟩ then 1
 else if s=⟨#[112,97,114,101,110,116,115]⟩∨s=⟨#[99,104,105,108,100,114,101,110]⟩∨s=⟨#[97,110,99,101,115,116,111,114,115]⟩∨s=⟨#[100,101,115,99,101,110,100,97,110,116,115]⟩∨s=⟨#[104,101,97,100,115]⟩∨s=⟨#[114,111,111,116,115]⟩ then 2
 else if s=⟨#[102,105,114,115,116]⟩∨s=⟨#[108,97,115,116]⟩∨s=⟨#[108,105,109,105,116]⟩ then 3
 else 0
def zafz (c:UInt8):Bool:=(48<=c&&c<=57)||(97<=c&&c<=102)
def zaav (s:ByteArray):Bool:=s.data.toList.all zafz&&decide (0<s.size)&&decide (s.size<=64)
def zacf (c:UInt8):Bool:=48<=c&&c<=57
def numB (l:List UInt8):Int:=l.foldl (fun a c=>10*a+(c.toNat-48:Int)) 0
def zabr (t:Tk):Option Int:=if t.kind=1/\t.text.data.toList.all zacf/\0<t.text.size/\t.text.size<=6 then some (numB t.text.data.toList) else none
def zaaz (k:Int)(ts:List Tk):Option (Int × Int) × List Tk:=if (zaab ts).kind=k then (none,zaal ts) else (zakT ts,ts)
def zaaT (d:Int)(t:Tk)(n0:Nd)(ts:List Tk)(f:Int->List Tk->R):R:=if d=24 then ⟨n0,some (16,t.at_),ts⟩ else f (d+1) ts
inductive Lv|expr|term|part|ranged|atom
def zabL (atom:List Tk->R)(k a:Int)(first:Nd)(must:Bool)(ts:List Tk):R :=
 if must=false/\(zaab ts).kind≠2/\(zaab ts).kind≠1 then ⟨.mk 7 a 0 ByteArray.empty [first],none,ts⟩
 else
  let q:=atom ts
  ⟨.mk k a 0 ByteArray.empty [first,q.n],q.e,q.ts⟩
def zapg (expr:Int->List Tk->R)(d:Int)(w:Tk)(ts:List Tk):R :=
 let n (x:Int) (ks:List Nd):Nd := .mk 10 w.at_ x w.text ks
 if zaaB w.text=0 then ⟨.zero,some (15,w.at_),ts⟩
 else zaaT d (zaab ts) .zero (zaal ts) fun d ts =>
  let close (m:Nd) (ts:List Tk):R:=let x:=zaaz 3 ts;⟨m,x.1,x.2⟩
  if zaaB w.text=1 then close (n 0 []) ts
  else
   let q:=expr d ts
   if q.e≠none then ⟨n 0 [q.n],q.e,q.ts⟩
   else if zaaB w.text=2 then close (n 0 [q.n]) q.ts
   else
    let x:=zaaz 4 q.ts
    if x.1≠none then ⟨n 0 [q.n],x.1,x.2⟩
    else match zabr (zaab x.2) with
     | none=>⟨n 0 [q.n],zakT x.2,x.2⟩
     | some k=>close (n k [q.n]) (zaal x.2)
def PF:Nat->Lv->Int->List Tk->R
 | 0,_,_,ts=>⟨.zero,none,ts⟩
 | f+1,.expr,d,ts=>zaaL (PF f .term d) kmE f (PF f .term d ts)
 | f+1,.term,d,ts=>zaaL (PF f .part d) kmT f (PF f .part d ts)
 | f+1,.part,d,ts =>
  let t:=zaab ts
  if t.kind≠10 then PF f .ranged d ts
  else zaaT d t (.mk 5 t.at_ 0 ByteArray.empty []) (zaal ts) fun d ts=>let q:=PF f .part d ts;⟨.mk 5 t.at_ 0 ByteArray.empty [q.n],q.e,q.ts⟩
 | f+1,.ranged,d,ts =>
  let t:=zaab ts
  if t.kind=5 then zaaT d t (.mk 6 t.at_ 0 ByteArray.empty []) (zaal ts) fun d ts=>let q:=PF f .atom d ts;⟨.mk 6 t.at_ 0 ByteArray.empty [q.n],q.e,q.ts⟩
  else
   let q:=PF f .atom d ts
   if q.e≠none then q
   else
    let u:=zaab q.ts
    if u.kind=5 then zaaT d u (.mk 8 u.at_ 0 ByteArray.empty [q.n]) (zaal q.ts) fun d ts=>zabL (PF f .atom d) 8 u.at_ q.n false ts
    else if u.kind=6 then zabL (PF f .atom d) 9 u.at_ q.n true (zaal q.ts)
    else ⟨q.n,none,q.ts⟩
 | f+1,.atom,d,ts =>
  let t:=zaab ts
  if t.kind=2 then zaaT d t .zero (zaal ts) fun d ts =>
   let q:=PF f .expr d ts
   if q.e≠none then q else let x:=zaaz 3 q.ts;⟨q.n,x.1,x.2⟩
  else if t.kind=1 then
   let ts:=zaal ts
   if (zaab ts).kind=2 then zapg (fun d ts=>PF f .expr d ts) d t ts
   else if zaav t.text then ⟨.mk 1 t.at_ 0 t.text [],none,ts⟩
   else ⟨.zero,some (15,t.at_),ts⟩
  else ⟨.zero,zakT ts,ts⟩
end Go.TP
end
section
namespace Go.TP
open Go.AS
def Nd.kid (n:Nd)(i:Nat):Nd:=n.kids.getD i .zero
def zabZ (k:Int)(t:ByteArray):Int :=
 if k=2∨k=3∨k=4∨k=8∨k=9 then 2
 else if k=5∨k=6∨k=7 then 1
 else if k=1 then 0
 else if k=10 then (if zaaB t-1<1 then zaaB t-1 else 1)
 else -1
def zabh (k n:Int)(t:ByteArray):Bool :=
 if k=1 then zaav t&&decide (n=0)
 else if k=10 then decide (n=0)||(decide (zaaB t=3)&&(decide (0<n)&&decide (n<=999999)))
 else decide (t=ByteArray.empty)&&decide (n=0)
def zadt (k n:Int)(t:ByteArray)(l:Nat):Bool:=decide (0<=zabZ k t)&&(decide (zabZ k t=l)&&zabh k n t)
mutual
def zaas:Nd->Bool
 | .mk k _ n t ks=>zadt k n t ks.length&&zaj7 ks
def zaj7:List Nd->Bool
 | []=>true
 | n::r=>zaas n&&zaj7 r
end
mutual
def zaDU:Nd->Nd->Bool
 | .mk k _ n t ks,b=>decide (k=b.kind)&&(decide (n=b.num)&&(decide (t=b.text)&&(decide (ks.length=b.kids.length)&&zaDV ks b.kids)))
def zaDV:List Nd->List Nd->Bool
 | [],_=>true
 | _::_,[]=>true
 | a::r,b::s=>zaDU a b&&zaDV r s
end
mutual
def zaah:Nd->List Nd
 | .mk k a _ t ks=>if k=1 then [.mk 1 a 0 t []] else zab4 ks
def zab4:List Nd->List Nd
 | []=>[]
 | n::r=>zaah n++zab4 r
end
mutual
def zaGO:Nd->Int
 | .mk _ _ _ _ ks=>zaDS ks 1
def zaDS:List Nd->Int->Int
 | [],a=>a
 | n::r,a=>zaDS r (a+zaGO n)
end
def zakr (n:Nd)(s:ByteArray):Bool:=decide (n.kind=10)&&decide (n.text=s)
def zai6:ByteArray:=⟨#[110,111,110,101]⟩
def zaCy (n:Nd)(k:Int):Nd:=if n.kind=k then n.kid 0 else n
def asS (k:Int)(n:Nd):Nd := .mk k n.at_ 0 ByteArray.empty [zaCy (n.kid 0) k]
def zamk (n:Nd):Bool:=decide (0<(zaah n).length)
def zavE (n:Nd):Nd :=
 let a:=n.kid 0
 let b:=n.kid 1
 if n.kind≠2/\zakr a zai6=true/\zamk b=false then a
 else if n.kind=4/\zakr b zai6=true/\zamk a=false then b
 else if n.kind=2/\zakr a zai6=true then b
 else if n.kind≠4/\zakr b zai6=true then a
 else n
def wAnc:ByteArray:=⟨#[97,110,99,101,115,116,111,114,115]⟩
def zak0:ByteArray:=⟨#[100,101,115,99,101,110,100,97,110,116,115]⟩
def zafl:ByteArray:=⟨#[104,101,97,100,115]⟩
def zafk:ByteArray:=⟨#[114,111,111,116,115]⟩
def zaen:ByteArray:=⟨#[102,105,114,115,116]⟩
def zakB:ByteArray:=⟨#[108,97,115,116]⟩
def zaem:ByteArray:=⟨#[108,105,109,105,116]⟩
def zaAE (t:ByteArray)(n:Nd):Nd :=
 if t=wAnc then asS 6 n
 else if t=zak0 then asS 7 n
 else if t=zafl∨t=zafk then (if zakr (n.kid 0) t then n.kid 0 else n)
 else if t=zaen∨t=zakB∨t=zaem then (if zakr (n.kid 0) zai6 then n.kid 0 else n)
 else n
def zaAF (n:Nd):Nd:=zaAE n.text n
def zaG5 (k:Int)(n:Nd):Nd :=
 if k=5 then (if (n.kid 0).kind=5 then (n.kid 0).kid 0 else n)
 else if k=6∨k=7 then asS k n
 else if k=10 then zaAF n
 else if k=4∨k=2 then (if zaDU (n.kid 0) (n.kid 1) then n.kid 0 else zavE n)
 else if k=3 then zavE n
 else n
def zaG4 (n:Nd):Nd:=zaG5 n.kind n
mutual
def rewS:Nd->Nd
 | .mk k a n t ks=>zaG4 (.mk k a n t (rewL ks))
def rewL:List Nd->List Nd
 | []=>[]
 | n::r=>rewS n::rewL r
end
theorem zahi:∀ {l:List Nd},zaj7 l=true↔∀ x∈l,zaas x=true
 | []=>by simp [zaj7]
 | n::r=>by simp [zaj7,zahi (l:=r)]
theorem zabH {k a n:Int}{t:ByteArray}{ks:List Nd}:zaas (.mk k a n t ks)=true↔zadt k n t ks.length=true/\∀ x∈ks,zaas x=true:=by
 rw [zaas,Bool.and_eq_true,zahi]
theorem zahd {k n:Int}{t:ByteArray}{l:Nat}(h:zadt k n t l=true):zabZ k t=l:=by simp_all [zadt,Bool.and_eq_true,decide_eq_true_eq]
theorem zaj5 {k n:Int}{t:ByteArray}{l:Nat}(h:zadt k n t l=true):zabh k n t=true:=by simp_all [zadt,Bool.and_eq_true,decide_eq_true_eq]
theorem zalR {ks:List Nd}(h:ks.length=1):∃ x,ks=[x]:=List.length_eq_one_iff.1 h
theorem zaro {ks:List Nd}(h:ks.length=2):∃ x y,ks=[x,y]:=by
 match ks,h with
 | [x,y],_=>exact ⟨x,y,rfl⟩
theorem zadz {k a n:Int}{t:ByteArray}{ks:List Nd}(h:zaas (.mk k a n t ks)=true):(zabZ k t=ks.length)/\zabh k n t=true/\∀ x∈ks,zaas x=true :=
 ⟨zahd (zabH.1 h).1,zaj5 (zabH.1 h).1,(zabH.1 h).2⟩
theorem zags {k:Int}(hk:k=5∨k=6∨k=7){a:Int}{x:Nd}(hx:zaas x=true):zaas (.mk k a 0 ByteArray.empty [x])=true:=by
 refine zabH.2 ⟨?_,fun y hy=>by rw [List.mem_singleton.1 hy];exact hx⟩
 rcases hk with rfl|rfl|rfl<;>rfl
theorem zaoY {t:ByteArray}(h:zaaB t=2∨zaaB t=3):zabZ 10 t=1:=by
 unfold zabZ
 rcases h with h|h<;>simp [h]
end Go.TP
end
section
namespace Go.TP
open Go.AS
def zaaE (c:Nat):Bool:=(decide (48<=c)&&decide (c<=57))||((decide (97<=c)&&decide (c<=122))||((decide (65<=c)&&decide (c<=90))||decide (c=95)))
def zabC (c:Nat):Bool:=decide (c=32)||(decide (c=9)||decide (c=10))
def zadN (s:ByteArray):Nat->Int->Int
 | 0,n=>n
 | f+1,n=>if n<s.size/\zaaE (zaaa s n.toNat)=true then zadN s f (n+1) else n
def zadM (s:ByteArray):Int:=zadN s s.size 0
def wAll:ByteArray:=⟨#[97,108,108]⟩
def zadp:ByteArray:=⟨#[109,97,115,116,101,114]⟩
def zacm:ByteArray:=⟨#[112,97,114,101,110,116,115]⟩
def zabQ:ByteArray:=⟨#[99,104,105,108,100,114,101,110]⟩
def bOr:ByteArray:=⟨#[111,114]⟩
def bAnd:ByteArray:=⟨#[97,110,100]⟩
def bNot:ByteArray:=⟨#[110,111,116]⟩
def zam7:ByteArray:=⟨#[109,105,110,117,115]⟩
def zacz (s:ByteArray):Int:=if s=bOr then 7 else if s=bAnd then 9 else if s=bNot then 10 else if s=zam7 then 8 else 1
def bCC:ByteArray:=⟨#[58,58]⟩
def bDD:ByteArray:=⟨#[46,46]⟩
def hasP (s p:ByteArray):Bool:=decide (p.size<=s.size)&&decide (s.extract 0 p.size=p)
def zafi (c:Nat)(s:ByteArray):Int × Int :=
 if c=58 then (if hasP s bCC=true then (5,2) else if hasP s bDD=true then (6,2) else (0,0))
 else if c=46 then (if hasP s bDD=true then (6,2) else (0,0))
 else if c=40 then (2,1)
 else if c=41 then (3,1)
 else if c=44 then (4,1)
 else if c=43∨c=124 then (7,1)
 else if c=45 then (8,1)
 else if c=38 then (9,1)
 else if c=33 then (10,1)
 else (0,0)
def zaif (s:ByteArray):Int × Int:=zafi (zaaa s 0) s
def oneS (s:ByteArray):Int × Int:=if 0<zadM s then (zacz (s.extract 0 (zadM s).toNat),zadM s) else zaif s
def lexG (s:ByteArray):Nat->Int->List Tk->Option Int × List Tk
 | 0,_,out=>(none,out)
 | f+1,i,out =>
  if i<s.size then
   if zabC (zaaa s i.toNat)=true then lexG s f (i+1) out
   else
    let o:=oneS (s.extract i.toNat s.size)
    if o.1=0 then (some i,[])
    else lexG s f (i+o.2) (out++[⟨o.1,i,s.extract i.toNat (i+o.2).toNat⟩])
  else (none,out)
inductive LexR where
 | long
 | bad (at_:Int)
 | ok (ts:List Tk)
def lexS (s:ByteArray):LexR :=
 if 600<s.size then .long
 else match lexG s s.size 0 [] with
  | (some i,_) => .bad i
  | (none,ts) => .ok (ts++[⟨11,s.size,ByteArray.empty⟩])
end Go.TP
end
section
namespace Go.Proofs.YtpofhijgccocpaaGreatDoor
open Go.AS Go.TP
noncomputable section
noncomputable def fn (f:Nat):Func:=(Tryz.prog.funcs[f]?).getD default
noncomputable def code (f:Nat):Code:=((Tryz.prog.funcs[f]?).bind (·.body)).getD .skip
theorem fnOk (f:Nat)(h:(Tryz.prog.funcs[f]?).isSome=true):Tryz.prog.funcs[f]?=some (fn f):=zaAk h
noncomputable def extF (f:FuncId):Option (Go.AS.Id->Nat->List AV->Hp->Option Res):=bsel (Nat.beq f zabO) (some (pureX Tryz.prog Extern.BytealgIndexByte.indexByte)) none
abbrev eSyn:ByteArray:=⟨#[105,110,118,97,108,105,100,32,115,121,110,116,97,120]⟩
abbrev eRan:ByteArray:=⟨#[118,97,108,117,101,32,111,117,116,32,111,102,32,114,97,110,103,101]⟩
noncomputable def zad9 (s:ByteArray):AV := .iface zab2 (.ref (.agg [.lit (.string s)]))
def powL:List Int:=[1,10,100,1000,10000,100000,1000000,10000000,100000000,1000000000,10000000000,100000000000,1000000000000,10000000000000,100000000000000,1000000000000000,10000000000000000,100000000000000000,1000000000000000000,10000000000000000000]
noncomputable def powA:AV := .ref (.agg (powL.map fun z => .lit (.int .u64 z)))
noncomputable def gl0 (g:Nat):Option AV:=bsel (Nat.beq g zaei) (some (.ref (zad9 eSyn))) (bsel (Nat.beq g zahK) (some (.ref (zad9 eRan))) (bsel (Nat.beq g gPow) (some powA) none))
noncomputable def X0:PX:={ P:=Tryz.prog,gl:=gl0,ext:=extF,own:=fun f d=>Nat.beq f zaiJ&&Nat.beq d 4,m:=100000 }
theorem zasS:IsExt Tryz.prog zabO (fn zabO) Extern.BytealgIndexByte.indexByte:=⟨fnOk _ (by kernel_rfl),by kernel_rfl,by kernel_rfl,by kernel_rfl,by kernel_rfl⟩
theorem zaic:X0.Sound:=by
 refine ⟨by kernel_rfl,fun g x h => ?_,fun f g h => ?_⟩
 · have h:bsel (Nat.beq g zaei) (some (.ref (zad9 eSyn))) (bsel (Nat.beq g zahK) (some (.ref (zad9 eRan))) (bsel (Nat.beq g gPow) (some powA) none))=some x:=h
   cases hb:Nat.beq g zaei
   · rw [hb,zaai] at h
     cases hb2:Nat.beq g zahK
     · rw [hb2,zaai] at h
       cases hb3:Nat.beq g gPow
       · rw [hb3,zaai] at h;cases h
       · rw [hb3,zaam] at h;cases h;intro M;rfl
     · rw [hb2,zaam] at h;cases h;intro M;rfl
   · rw [hb,zaam] at h;cases h;intro M;rfl
 · have h:bsel (Nat.beq f zabO) (some (pureX Tryz.prog Extern.BytealgIndexByte.indexByte)) none=some g:=h
   cases hb:Nat.beq f zabO
   · rw [hb,zaai] at h;cases h
   · rw [hb,zaam] at h;cases h
     obtain rfl:=Nat.eq_of_beq_eq_true hb
     exact zacq (C:=cx X0 zabO fun _ _ _ _ _=>none) zasS
noncomputable def XB:WX:=WX.base X0
theorem zaaR:XB.Sound := .base zaic
noncomputable abbrev i0 (n:Int):AV := .lit (.int .i64 n)
noncomputable abbrev b0 (b:Bool):AV := .lit (.bool b)
noncomputable abbrev s0 (s:ByteArray):AV := .lit (.string s)
abbrev F (f:Nat)(xs:List AV)(r:AV):Prop:=FOk Tryz.prog gl0 f xs .nil ⟨r,.nil,[]⟩
def gF (X:WX)(fs:List Nat)(f:Nat)(os:Orc)(xs:List AV)(r:AV):Prop:=runF (X.ask fs) 12 f (fn f) (code f) os 0 [] xs .nil ⟨r,.nil,[]⟩
theorem F_ok {X:WX}(hX:X.Sound)(hp:X.px=X0){fs:List Nat}{f:Nat}(hs:(Tryz.prog.funcs[f]?).isSome=true)(hb:(fn f).body=some (code f))(hn:((fn f).name == "runtime.NumGoroutine")=false){os:Orc}{xs:List AV}{r:AV}(h:gF X fs f os xs r):F f xs r:=by
 have hP:X.px.P=Tryz.prog:=by rw [hp];rfl
 have hg:X.px.gl=gl0:=by rw [hp];rfl
 have:=zade (X:=X.ask fs) (d:=12) (hX.ask fs) (f:=f) (fn:=fn f) (code:=code f) (by show X.px.P.funcs[f]?=_;rw [hP];exact fnOk f hs) hb hn h
 show FOk Tryz.prog gl0 f xs .nil ⟨r,.nil,[]⟩
 rw [<-hg,<-hP];exact this
noncomputable abbrev u0 (n:Int):AV := .lit (.int .u8 n)
abbrev L1 (xs:List AV):AV := .lst false 1 xs
abbrev L3 (xs:List AV):AV := .lst false 3 xs
abbrev L5 (xs:List AV):AV := .lst false 5 xs
abbrev S0:Prop:=SameH (hpL []) (hpL [])
abbrev eF (l:Nat)(i:Go.AS.Id)(n:Nat)(xs:List AV):Nat × Ent:=(l,⟨i,.row false n xs⟩)
noncomputable abbrev uu:AV := .lit (.tuple ⟨[]⟩)
abbrev HT (o:Orc):Orc := .t (.t (.t (.t o)))
abbrev HF (o:Orc):Orc := .f (.f (.f (.f o)))
abbrev eR (l:Nat)(i:Go.AS.Id)(n:Nat)(xs:List AV):Nat × Ent:=(l,⟨i,.row true n xs⟩)
abbrev Yt (p:Prop):Prop:=true=true/\p
abbrev Yt4 (p:Prop):Prop:=true=true/\true=true/\true=true/\true=true/\p
abbrev Nf (p:Prop):Prop:=false=false/\p
abbrev Nf4 (p:Prop):Prop:=false=false/\false=false/\false=false/\false=false/\p
abbrev U1 (x:List AV)(y:List (Nat × Ent))(p:Prop):Prop:=∃ (_:Unit),(True/\Wks x x/\hpL y=hpL y)/\p
abbrev hR (h:Nat->Int):List AV:=[.lit (.int .u8 (h 0)),.lit (.int .u8 (h 1)),.lit (.int .u8 (h 2)),.lit (.int .u8 (h 3)),.lit (.int .u8 (h 4)),.lit (.int .u8 (h 5)),.lit (.int .u8 (h 6)),.lit (.int .u8 (h 7)),.lit (.int .u8 (h 8)),.lit (.int .u8 (h 9)),.lit (.int .u8 (h 10)),.lit (.int .u8 (h 11)),.lit (.int .u8 (h 12)),.lit (.int .u8 (h 13)),.lit (.int .u8 (h 14)),.lit (.int .u8 (h 15)),.lit (.int .u8 (h 16)),.lit (.int .u8 (h 17)),.lit (.int .u8 (h 18)),.lit (.int .u8 (h 19)),.lit (.int .u8 (h 20)),.lit (.int .u8 (h 21)),.lit (.int .u8 (h 22)),.lit (.int .u8 (h 23)),.lit (.int .u8 (h 24)),.lit (.int .u8 (h 25)),.lit (.int .u8 (h 26)),.lit (.int .u8 (h 27)),.lit (.int .u8 (h 28)),.lit (.int .u8 (h 29)),.lit (.int .u8 (h 30)),.lit (.int .u8 (h 31))]
variable {f n c:Nat} {xs:List AV}
theorem F_of {x:AV}{c':Nat}{ws':List Nat}(h:S X0 n f xs 1 .nil []=some (x,c',.nil,ws')):F f xs x:=by
 intro E w vals hg hh hf _ hv
 obtain ⟨_,h2⟩:=S_ok zaic n f xs 1 .nil [] x c' .nil ws' h
 refine (h2 E w vals hg hh hf hv).imp ?_
 rintro v w' ⟨E',k1,k2,k3,_⟩
 exact ⟨.z,_,E',rfl,⟨fun l _=>rfl,fun l e he=>⟨e,he⟩⟩,k1,k2,k3⟩
abbrev c0 (c:Nat):AV := .lit (.int .u8 c)
def isB (r:zah3)(b:Bool):Bool:=match r with
 | some (.lit (.bool a),_,.nil,_)=>a==b
 | _=>false
def isI (r:zah3)(n:Int):Bool:=match r with
 | some (.lit (.int .i64 a),_,.nil,_)=>decide (a=n)
 | _=>false
theorem zaFC {b:Bool}(h:isB (S X0 n f xs 1 .nil []) b=true):F f xs (b0 b):=by
 unfold isB at h
 split at h
 · rename_i hs;rw [beq_iff_eq] at h;subst h;exact F_of hs
 · cases h
theorem zaCu {a:Int}(h:isI (S X0 n f xs 1 .nil []) a=true):F f xs (i0 a):=by
 unfold isI at h
 split at h
 · rename_i hs;obtain rfl:=of_decide_eq_true h;exact F_of hs
 · cases h
theorem zan {p:Nat->Bool}(h:(List.range 256).all p=true)(hc:c<256):p c=true:=List.all_eq_true.1 h c (List.mem_range.2 hc)
def blanks:ByteArray:=⟨#[32,9,10]⟩
def zadK (c:Nat):Int:=if c=32 then 0 else if c=9 then 1 else if c=10 then 2 else -1
def zadG (c:Nat):Int:=if 48<=c/\c<=57 then c-48 else if 97<=c/\c<=102 then c-87 else -1
theorem zaoB (hc:c<256):F zamC [c0 c] (b0 (zaaE c)) :=
 zaFC (n:=100) (zan (p:=fun c=>isB (S X0 100 zamC [c0 c] 1 .nil []) (zaaE c)) (by kernel_rfl) hc)
theorem zauj (hc:c<256):F zaug [c0 c] (i0 (zadG c)) :=
 zaCu (n:=100) (zan (p:=fun c=>isI (S X0 100 zaug [c0 c] 1 .nil []) (zadG c)) (by kernel_rfl) hc)
theorem zaup (hc:c<256):F zamE [s0 blanks,c0 c] (i0 (zadK c)) :=
 zaCu (n:=100) (zan (p:=fun c=>isI (S X0 100 zamE [s0 blanks,c0 c] 1 .nil []) (zadK c)) (by kernel_rfl) hc)
def zalq:Sp := .pure Nat (fun c=>c<256) (fun c=>[c0 c]) (fun c=>b0 (zaaE c))
def zapO:Sp := .pure Nat (fun c=>c<256) (fun c=>[c0 c]) (fun c=>i0 (zadG c))
def zapP:Sp := .pure Nat (fun c=>c<256) (fun c=>[s0 blanks,c0 c]) (fun c=>i0 (zadK c))
noncomputable def X1:WX:=((XB.add zamC (Sp.con [zalq])).add zaug (Sp.con [zapO])).add zamE (Sp.con [zapP])
abbrev zakY (n:Int):Ex × Back:=(.exit 0,⟨.tup [i0 n],.nil,[]⟩)
abbrev zaou (P:Prop)(s:ByteArray)(n r:Int):Lp:=Lp1 [0,3] [] (fun _=>[3]) P [s0 s,i0 n] .nil (zakY r)
def zayg (os:Orc)(P:Prop)(s:ByteArray)(n r:Int):Prop:=runL (X1.ask [zad6]) 6 zad6 (fn zad6).ntmps (zaaX (code zad6) 0) (zaou P s (n+1) r) (zaou P s (n+1) r) os 0 [] [s0 s,i0 n] .nil (zakY r)
def zaFI (os:Orc)(s:ByteArray)(r:Int):Prop:=gF (X1.addLp zad6 0 (zaou True s 0 r)) [zad6] zad6 os [s0 s] (i0 r)
def zaqM (os:Orc)(s:ByteArray)(r:Int):Prop:=gF X1 [zajJ] zajJ os [s0 s] (i0 r)
def zaGf (os:Orc)(s p:ByteArray)(r:Bool):Prop:=gF X1 [zaC8] zaC9 os [s0 s,s0 p] (b0 r)
def zavx:Sp := .pure (ByteArray × ByteArray) (fun i=>i.2.size<1000000) (fun i=>[s0 i.1,s0 i.2]) (fun i=>b0 (hasP i.1 i.2))
noncomputable def X1s:WX:=X1.add zaC9 (Sp.con [zavx])
def zaFR (os:Orc)(s:ByteArray)(k n:Int):Prop:=gF X1s [zaBF] zaBF os [s0 s] (.tup [i0 k,i0 n])
def zavr:Sp := .pure ByteArray (fun s=>s.size<=600) (fun s=>[s0 s]) (fun s=>i0 (zadM s))
def zalm:Sp := .pure ByteArray (fun _=>True) (fun s=>[s0 s]) (fun s=>i0 (zacz s))
def zavt:Sp := .pure ByteArray (fun s=>0<s.size) (fun s=>[s0 s]) (fun s => .tup [i0 (zaif s).1,i0 (zaif s).2])
noncomputable def X2:WX:=((X1.add zad6 (Sp.con [zavr])).add zajJ (Sp.con [zalm])).add zaBF (Sp.con [zavt])
def gOne (os:Orc)(s:ByteArray)(k n:Int):Prop:=gF X2 [fOne] fOne os [s0 s] (.tup [i0 k,i0 n])
def zaDO:Sp := .pure ByteArray (fun s=>0<s.size/\s.size<=600) (fun s=>[s0 s]) (fun s => .tup [i0 (oneS s).1,i0 (oneS s).2])
noncomputable def X3:WX:=X2.add fOne (Sp.con [zaDO])
end
end Go.Proofs.YtpofhijgccocpaaGreatDoor
end
section
namespace Go.Proofs.YtpofhijgccocpaaGreatDoor
open Go Go.AS Go.TP
def zaqj:Orc:=Orc.s (Orc.t (Orc.t (Orc.t (Orc.s Orc.z Orc.z)))) (Orc.f (Orc.f (Orc.f (Orc.f Orc.z))))
theorem zaoJ (P:Prop)(s:ByteArray)(n r:Int):zayg zaqj P s n r=(let z1:=(↑(ByteArray.size s):Int);let z2:=(AV.tup [i0 r]);(decide (n<z1)=true->Yt (Yt (decide ((0:Int)<=n/\n<z1)=true/\Yt (∃ (i1:Nat),(i1<256/\Wks [u0 (↑(zaaa s (Int.toNat n)):Int)] [u0 (↑i1:Int)]/\hpL []=hpL [])/\(zaaE i1=true->inR IntKind.i64 (n+1)=true/\∃ (_:Unit),(P/\Wks [s0 s,i0 (n+1)] [s0 s,i0 (n+1)]/\hpL []=hpL [])/\Ex.exit 0=Ex.exit 0/\Wk z2 z2/\S0)/\(zaaE i1=false->Ex.exit 0=Ex.exit 0/\Wk (AV.tup [i0 n]) z2/\S0)))))/\(decide (n<z1)=false->Nf4 (Ex.exit 0=Ex.exit 0/\Wk (AV.tup [i0 n]) z2/\S0))):=by kernel_rfl
theorem zasZ (s:ByteArray)(r:Int):zaFI (Orc.z) s r=(U1 [s0 s,i0 0] [] (Wk (i0 r) (i0 r)/\S0)):=by kernel_rfl
def zalU:Orc:=Orc.s Orc.z (Orc.s Orc.z (Orc.s Orc.z (Orc.s Orc.z Orc.z)))
theorem zamo (s:ByteArray)(r:Int):zaqM zalU s r=(let z1:=(ByteArray.toList s==ByteArray.toList zam7);let z2:=(ByteArray.toList s==ByteArray.toList bAnd);let z3:=(ByteArray.toList s==ByteArray.toList bNot);let z4:=(ByteArray.toList s==ByteArray.toList bOr);(z4=true->Wk (i0 7) (i0 r)/\S0)/\(z4=false->(z2=true->Wk (i0 9) (i0 r)/\S0)/\(z2=false->(z3=true->Wk (i0 10) (i0 r)/\S0)/\(z3=false->(z1=true->Wk (i0 8) (i0 r)/\S0)/\(z1=false->Wk (i0 1) (i0 r)/\S0))))):=by kernel_rfl
def zaxc:Orc:=Orc.s (HT (Orc.t Orc.z)) (HF (Orc.f Orc.z))
theorem zatX (s p:ByteArray)(r:Bool):zaGf zaxc s p r=(let z1:=(↑(ByteArray.size s):Int);let z2:=(↑(ByteArray.size p):Int);(decide (z1>=z2)=true->Yt (Yt (Yt (decide ((0:Int)<=(0:Int)/\(0:Int)<=Option.getD (some z2) z1/\Option.getD (some z2) z1<=z1/\false=false)=true/\Yt (Yt (Wk (b0 (ByteArray.toList (ByteArray.extract s 0 (Int.toNat (Option.getD (some z2) z1)))==ByteArray.toList p)) (b0 r)/\S0))))))/\(decide (z1>=z2)=false->Nf4 (Nf (Wk (b0 false) (b0 r)/\S0)))):=by kernel_rfl
def zaw8:Orc:=Orc.s (Orc.s Orc.z (Orc.s Orc.z Orc.z)) (Orc.s (Orc.s Orc.z Orc.z) (Orc.s Orc.z (Orc.s Orc.z (Orc.s Orc.z (Orc.s (Orc.t Orc.z) (Orc.s Orc.z (Orc.s Orc.z (Orc.s Orc.z (Orc.s Orc.z Orc.z)))))))))
theorem zatg (s:ByteArray)(k n:Int):zaFR zaw8 s k n=(decide ((0:Int)<=(0:Int)/\(0:Int)<(↑(ByteArray.size s):Int))=true/\(((↑(zaaa s 0):Int)==58)=true->∃ (i1:ByteArray × ByteArray),(ByteArray.size (Prod.snd i1)<1000000/\Wks [s0 s,s0 bCC] [s0 (Prod.fst i1),s0 (Prod.snd i1)]/\hpL []=hpL [])/\(hasP (Prod.fst i1) (Prod.snd i1)=true->Wk (AV.tup [i0 5,i0 2]) (AV.tup [i0 k,i0 n])/\S0)/\(hasP (Prod.fst i1) (Prod.snd i1)=false->∃ (i2:ByteArray × ByteArray),(ByteArray.size (Prod.snd i2)<1000000/\Wks [s0 s,s0 bDD] [s0 (Prod.fst i2),s0 (Prod.snd i2)]/\hpL []=hpL [])/\(hasP (Prod.fst i2) (Prod.snd i2)=true->Wk (AV.tup [i0 6,i0 2]) (AV.tup [i0 k,i0 n])/\S0)/\(hasP (Prod.fst i2) (Prod.snd i2)=false->Wk (AV.tup [i0 0,i0 0]) (AV.tup [i0 k,i0 n])/\S0)))/\(((↑(zaaa s 0):Int)==58)=false->(((↑(zaaa s 0):Int)==46)=true->∃ (i3:ByteArray × ByteArray),(ByteArray.size (Prod.snd i3)<1000000/\Wks [s0 s,s0 bDD] [s0 (Prod.fst i3),s0 (Prod.snd i3)]/\hpL []=hpL [])/\(hasP (Prod.fst i3) (Prod.snd i3)=true->Wk (AV.tup [i0 6,i0 2]) (AV.tup [i0 k,i0 n])/\S0)/\(hasP (Prod.fst i3) (Prod.snd i3)=false->Wk (AV.tup [i0 0,i0 0]) (AV.tup [i0 k,i0 n])/\S0))/\(((↑(zaaa s 0):Int)==46)=false->(((↑(zaaa s 0):Int)==40)=true->Wk (AV.tup [i0 2,i0 1]) (AV.tup [i0 k,i0 n])/\S0)/\(((↑(zaaa s 0):Int)==40)=false->(((↑(zaaa s 0):Int)==41)=true->Wk (AV.tup [i0 3,i0 1]) (AV.tup [i0 k,i0 n])/\S0)/\(((↑(zaaa s 0):Int)==41)=false->(((↑(zaaa s 0):Int)==44)=true->Wk (AV.tup [i0 4,i0 1]) (AV.tup [i0 k,i0 n])/\S0)/\(((↑(zaaa s 0):Int)==44)=false->(((↑(zaaa s 0):Int)==43)=true->true=true/\Wk (AV.tup [i0 7,i0 1]) (AV.tup [i0 k,i0 n])/\S0)/\(((↑(zaaa s 0):Int)==43)=false->(((↑(zaaa s 0):Int)==124)=true->Wk (AV.tup [i0 7,i0 1]) (AV.tup [i0 k,i0 n])/\S0)/\(((↑(zaaa s 0):Int)==124)=false->(((↑(zaaa s 0):Int)==45)=true->Wk (AV.tup [i0 8,i0 1]) (AV.tup [i0 k,i0 n])/\S0)/\(((↑(zaaa s 0):Int)==45)=false->(((↑(zaaa s 0):Int)==38)=true->Wk (AV.tup [i0 9,i0 1]) (AV.tup [i0 k,i0 n])/\S0)/\(((↑(zaaa s 0):Int)==38)=false->(((↑(zaaa s 0):Int)==33)=true->Wk (AV.tup [i0 10,i0 1]) (AV.tup [i0 k,i0 n])/\S0)/\(((↑(zaaa s 0):Int)==33)=false->Wk (AV.tup [i0 0,i0 0]) (AV.tup [i0 k,i0 n])/\S0))))))))))):=by kernel_rfl
theorem zay3 (s:ByteArray)(k n:Int):gOne (Orc.s Orc.z Orc.z) s k n=(let z1:=(↑(ByteArray.size s):Int);∃ (i1:ByteArray),(ByteArray.size i1<=600/\Wks [s0 s] [s0 i1]/\hpL []=hpL [])/\(decide (zadM i1>0)=true->decide ((0:Int)<=(0:Int)/\(0:Int)<=Option.getD (some (zadM i1)) z1/\Option.getD (some (zadM i1)) z1<=z1/\false=false)=true/\∃ (i2:ByteArray),(True/\Wks [s0 (ByteArray.extract s 0 (Int.toNat (Option.getD (some (zadM i1)) z1)))] [s0 i2]/\hpL []=hpL [])/\Wk (AV.tup [i0 (zacz i2),i0 (zadM i1)]) (AV.tup [i0 k,i0 n])/\S0)/\(decide (zadM i1>0)=false->∃ (i3:ByteArray),(0<ByteArray.size i3/\Wks [s0 s] [s0 i3]/\hpL []=hpL [])/\Wk (AV.tup [i0 (Prod.fst (zaif i3)),i0 (Prod.snd (zaif i3))]) (AV.tup [i0 k,i0 n])/\S0)):=by kernel_rfl
end Go.Proofs.YtpofhijgccocpaaGreatDoor
end
section
namespace Go.Proofs.YtpofhijgccocpaaGreatDoor
open Go.AS Go.TP
noncomputable section
theorem zaek {f:Nat}{s:Sp}(h:∀ i,s.pre i->FOk Tryz.prog gl0 f (s.args i) (s.heap i) (s.out i)):zagZ Tryz.prog gl0 f (Sp.con [s]):=Sp.one h
theorem zakJ:X1.Sound:=((zaaR.add (zaek (s:=zalq) fun _ h=>zaoB h)).add (zaek (s:=zapO) fun _ h=>zauj h)).add (zaek (s:=zapP) fun _ h=>zaup h)
theorem zagI {P:Prop}{s:ByteArray}{n r:Int}(h0:0<=n)(hs:s.size<=600)(h1:¬(n<s.size/\zaaE (zaaa s n.toNat)=true)->r=n)(h2:n<s.size/\zaaE (zaaa s n.toNat)=true->P) :
  zayg zaqj P s n r:=by
 rw [zaoJ]
 refine ⟨fun h => ?_,fun h => ?_⟩
 · have h:=of_decide_eq_true h
   refine ⟨rfl,rfl,decide_eq_true ⟨h0,h⟩,rfl,_,⟨zaaC _ _,.refl _,rfl⟩,fun g => ?_,fun g => ?_⟩
   · exact ⟨zaag (by omega) (by omega),(),⟨h2 ⟨h,g⟩,.refl _,rfl⟩,rfl,.refl _,.rfl⟩
   · rw [h1 fun q=>by rw [q.2] at g;cases g];exact ⟨rfl,.refl _,.rfl⟩
 · have h:=of_decide_eq_false h
   rw [h1 fun q=>h q.1];exact ⟨rfl,rfl,rfl,rfl,rfl,.refl _,.rfl⟩
abbrev BWord (xs:List AV)(r:Ex × Back):Prop:=zab9 Tryz.prog gl0 (fn zad6).ntmps (zaaX (code zad6) 0) [0,3] (fun _=>[3]) xs .nil fun _ q=>q=r
theorem zaGC (s:ByteArray)(hs:s.size<=600):∀ (f:Nat) (n:Int),0<=n->s.size-n<=f->BWord [s0 s,i0 n] (zakY (zadN s f n)):=by
 intro f
 induction f with
 | zero =>
  intro n h0 hn
  exact lp_round1 (X:=X1.ask [zad6]) (zakJ.ask _) (fnOk zad6 (by kernel_rfl)) (show (fn zad6).body=some (code zad6) by kernel_rfl) (by decide) (P:=False) (fun h=>h.elim) (zagI h0 hs (fun _=>rfl) (fun q=>by omega))
 | succ f ih =>
  intro n h0 hn
  rw [zadN]
  by_cases h:n<s.size/\zaaE (zaaa s n.toNat)=true
  · rw [if_pos h]
    exact lp_round1 (X:=X1.ask [zad6]) (zakJ.ask _) (fnOk zad6 (by kernel_rfl)) (show (fn zad6).body=some (code zad6) by kernel_rfl) (by decide) (P:=True) (fun _=>ih (n+1) (by omega) (by omega)) (zagI h0 hs (fun q=>absurd h q) (fun _=>trivial))
  · rw [if_neg h]
    exact lp_round1 (X:=X1.ask [zad6]) (zakJ.ask _) (fnOk zad6 (by kernel_rfl)) (show (fn zad6).body=some (code zad6) by kernel_rfl) (by decide) (P:=False) (fun h=>h.elim) (zagI h0 hs (fun _=>rfl) (fun q=>absurd q h))
theorem zas0 (s:ByteArray)(r:Int):zaFI Orc.z s r:=by rw [zasZ];exact ⟨(),⟨trivial,.refl _,rfl⟩,.refl _,.rfl⟩
theorem zau9 (s:ByteArray)(hs:s.size<=600):F zad6 [s0 s] (i0 (zadM s)) :=
 F_ok (X:=X1.addLp zad6 0 (zaou True s 0 (zadM s))) (zakJ.addLp (fnOk zad6 (by kernel_rfl)) (show (fn zad6).body=some (code zad6) by kernel_rfl) (by kernel_rfl)
  (Spl.ok rfl (show ([0,3]:List Nat).Nodup by decide) fun s' hs' i _=>by obtain rfl:=List.mem_singleton.1 hs';exact zaGC s hs s.size 0 (Int.le_refl _) (by omega)))
  rfl (by kernel_rfl) (by kernel_rfl) (by kernel_rfl) (zas0 s _)
theorem zamp (s:ByteArray):zaqM zalU s (zacz s):=by
 rw [zamo]
 rw [zaba s bOr,zaba s bAnd,zaba s bNot,zaba s zam7]
 unfold zacz
 refine ⟨fun h => ?_,fun h=>⟨fun g => ?_,fun g=>⟨fun k => ?_,fun k=>⟨fun q => ?_,fun q => ?_⟩⟩⟩⟩
 · rw [if_pos (of_decide_eq_true h)];exact ⟨.refl _,.rfl⟩
 all_goals rw [if_neg (of_decide_eq_false h)]
 · rw [if_pos (of_decide_eq_true g)];exact ⟨.refl _,.rfl⟩
 all_goals rw [if_neg (of_decide_eq_false g)]
 · rw [if_pos (of_decide_eq_true k)];exact ⟨.refl _,.rfl⟩
 all_goals rw [if_neg (of_decide_eq_false k)]
 · rw [if_pos (of_decide_eq_true q)];exact ⟨.refl _,.rfl⟩
 · rw [if_neg (of_decide_eq_false q)];exact ⟨.refl _,.rfl⟩
theorem zanC (s:ByteArray):F zajJ [s0 s] (i0 (zacz s)):=F_ok zakJ rfl (by kernel_rfl) (by kernel_rfl) (by kernel_rfl) (zamp s)
theorem zatY (s p:ByteArray):zaGf zaxc s p (hasP s p):=by
 rw [zatX]
 unfold hasP
 refine ⟨fun h => ?_,fun h => ?_⟩
 · have h:=of_decide_eq_true h
   refine ⟨rfl,rfl,rfl,decide_eq_true ⟨Int.le_refl _,Int.natCast_nonneg _,h,rfl⟩,rfl,rfl,.of_eq ?_,.rfl⟩
   rw [zaba,decide_eq_true (show p.size<=s.size by omega)];rfl
 · have h:=of_decide_eq_false h
   refine ⟨rfl,rfl,rfl,rfl,rfl,.of_eq ?_,.rfl⟩
   rw [decide_eq_false (show ¬p.size<=s.size by omega)];rfl
theorem zaxJ (s p:ByteArray):F zaC9 [s0 s,s0 p] (b0 (hasP s p)):=F_ok zakJ rfl (by kernel_rfl) (by kernel_rfl) (by kernel_rfl) (zatY s p)
theorem zaDy:X1s.Sound:=zakJ.add (zaek (s:=zavx) fun i _=>zaxJ i.1 i.2)
theorem zath (s:ByteArray)(hs:0<s.size):zaFR zaw8
  s (zaif s).1 (zaif s).2:=by
 rw [zatg]
 unfold zaif
 generalize zaaa s 0=c
 rw [zafA (b:=58) (n:=58) rfl,zafA (b:=46) (n:=46) rfl,zafA (b:=40) (n:=40) rfl,zafA (b:=41) (n:=41) rfl,zafA (b:=44) (n:=44) rfl,zafA (b:=43) (n:=43) rfl,zafA (b:=124) (n:=124) rfl,zafA (b:=45) (n:=45) rfl,zafA (b:=38) (n:=38) rfl,zafA (b:=33) (n:=33) rfl]
 unfold zafi
 refine ⟨decide_eq_true ⟨Int.le_refl _,by omega⟩,fun h => ?_,fun h=>⟨fun h2 => ?_,fun h2=>⟨fun h3 => ?_,fun h3=>⟨fun h4 => ?_,fun h4=>⟨fun h5 => ?_,fun h5=>⟨fun h6 => ?_,fun h6=>⟨fun h7 => ?_,fun h7=>⟨fun h8 => ?_,fun h8=>⟨fun h9 => ?_,fun h9=>⟨fun h10 => ?_,fun h10 => ?_⟩⟩⟩⟩⟩⟩⟩⟩⟩⟩
 · rw [if_pos (of_decide_eq_true h)]
   refine ⟨(s,bCC),⟨(show (2:Nat)<1000000 by decide),.refl _,rfl⟩,fun g => ?_,fun g => ?_⟩
   · have g:hasP s bCC=true:=g
     rw [if_pos g];exact ⟨.refl _,.rfl⟩
   · have g:hasP s bCC=false:=g
     rw [if_neg (by rw [g];decide)]
     refine ⟨(s,bDD),⟨(show (2:Nat)<1000000 by decide),.refl _,rfl⟩,fun g => ?_,fun g => ?_⟩
     · have g:hasP s bDD=true:=g
       rw [if_pos g];exact ⟨.refl _,.rfl⟩
     · have g:hasP s bDD=false:=g
       rw [if_neg (by rw [g];decide)];exact ⟨.refl _,.rfl⟩
 all_goals rw [if_neg (of_decide_eq_false h)]
 · rw [if_pos (of_decide_eq_true h2)]
   refine ⟨(s,bDD),⟨(show (2:Nat)<1000000 by decide),.refl _,rfl⟩,fun g => ?_,fun g => ?_⟩
   · have g:hasP s bDD=true:=g
     rw [if_pos g];exact ⟨.refl _,.rfl⟩
   · have g:hasP s bDD=false:=g
     rw [if_neg (by rw [g];decide)];exact ⟨.refl _,.rfl⟩
 all_goals rw [if_neg (of_decide_eq_false h2)]
 · rw [if_pos (of_decide_eq_true h3)];exact ⟨.refl _,.rfl⟩
 all_goals rw [if_neg (of_decide_eq_false h3)]
 · rw [if_pos (of_decide_eq_true h4)];exact ⟨.refl _,.rfl⟩
 all_goals rw [if_neg (of_decide_eq_false h4)]
 · rw [if_pos (of_decide_eq_true h5)];exact ⟨.refl _,.rfl⟩
 all_goals rw [if_neg (of_decide_eq_false h5)]
 · rw [if_pos (.inl (of_decide_eq_true h6))];exact ⟨rfl,.refl _,.rfl⟩
 · rw [if_pos (.inr (of_decide_eq_true h7))];exact ⟨.refl _,.rfl⟩
 all_goals rw [if_neg (fun q:c=43∨c=124=>q.elim (of_decide_eq_false h6) (of_decide_eq_false h7))]
 · rw [if_pos (of_decide_eq_true h8)];exact ⟨.refl _,.rfl⟩
 all_goals rw [if_neg (of_decide_eq_false h8)]
 · rw [if_pos (of_decide_eq_true h9)];exact ⟨.refl _,.rfl⟩
 all_goals rw [if_neg (of_decide_eq_false h9)]
 · rw [if_pos (of_decide_eq_true h10)];exact ⟨.refl _,.rfl⟩
 · rw [if_neg (of_decide_eq_false h10)];exact ⟨.refl _,.rfl⟩
theorem zavC (s:ByteArray)(hs:0<s.size):F zaBF [s0 s] (.tup [i0 (zaif s).1,i0 (zaif s).2]):=F_ok zaDy rfl (by kernel_rfl) (by kernel_rfl) (by kernel_rfl) (zath s hs)
theorem zaGz:X2.Sound:=((zakJ.add (zaek (s:=zavr) fun s h=>zau9 s h)).add (zaek (s:=zalm) fun s _=>zanC s)).add (zaek (s:=zavt) fun s h=>zavC s h)
theorem zark (s:ByteArray):∀ (f:Nat) (n:Int),n<=s.size->n<=zadN s f n/\zadN s f n<=s.size:=by
 intro f
 induction f with
 | zero=>intro n h;exact ⟨Int.le_refl _,h⟩
 | succ f ih =>
  intro n h
  rw [zadN]
  split
  · rename_i h1;have:=ih (n+1) (by omega);omega
  · exact ⟨Int.le_refl _,h⟩
theorem zah7 (s:ByteArray):0<=zadM s/\zadM s<=s.size:=zark s s.size 0 (by omega)
theorem zay4 (s:ByteArray)(h0:0<s.size)(hs:s.size<=600):gOne (Orc.s Orc.z Orc.z) s (oneS s).1 (oneS s).2:=by
 rw [zay3]
 have hw:=zah7 s
 unfold oneS
 refine ⟨s,⟨hs,.refl _,rfl⟩,fun h => ?_,fun h => ?_⟩
 · have h:0<zadM s:=of_decide_eq_true h
   rw [if_pos h]
   exact ⟨decide_eq_true ⟨Int.le_refl _,hw.1,hw.2,rfl⟩,_,⟨trivial,.refl _,rfl⟩,.refl _,.rfl⟩
 · have h:¬0<zadM s:=of_decide_eq_false h
   rw [if_neg h]
   exact ⟨s,⟨h0,.refl _,rfl⟩,.refl _,.rfl⟩
theorem one_ok (s:ByteArray)(h0:0<s.size)(hs:s.size<=600):F fOne [s0 s] (.tup [i0 (oneS s).1,i0 (oneS s).2]):=F_ok zaGz rfl (by kernel_rfl) (by kernel_rfl) (by kernel_rfl) (zay4 s h0 hs)
theorem zaDx:X3.Sound:=zaGz.add (zaek (s:=zaDO) fun s h=>one_ok s h.1 h.2)
def encT (t:Tk):AV := .agg [i0 t.kind,i0 t.at_,s0 t.text]
def zaau (k a:Int):AV := .iface zavm (.ref (.agg [i0 a,.iface zai (i0 k)]))
def zacO (s:ByteArray)(ys:List AV)(i:Int):List AV:=[s0 s,.slc 1048577 [0,0] 0 ys.length,i0 i]
def zaaM (ys:List AV):Hp:=hpL [(1048577,⟨[0,0],.row true 3 ys⟩)]
def zacN (c:Nat)(s:ByteArray)(ys:List AV):Ex × Back:=(.exit 0,⟨.tup [s0 s,.slc 1048577 [0,c] 0 ys.length],hpL [(1048577,⟨[0,c],.row true 3 ys⟩)],[1048577]⟩)
def zae4 (c:Nat)(ys:List AV)(i:Int):Ex × Back:=(.ret,⟨.tup [.lit (.slice none 0 0),zaau 15 i],hpL [(1048577,⟨[0,c],.row true 3 ys⟩)],[1048577]⟩)
def zaqB:Ex->List Nat
 | .ret=>[2,3]
 | _=>[0,4]
abbrev zasF (Q:Int->List AV->Prop)(s:ByteArray)(r:Ex × Back):Lp:=⟨[0,4,5],[(4,3)],zaqB,Spl.con [⟨Int × List AV,fun q=>Q q.1 q.2,fun q=>zacO s q.2 q.1,fun q=>zaaM q.2,fun _=>r⟩]⟩
def rLex (os:Orc)(fc:List Nat)(Q:Int->List AV->Prop)(s:ByteArray)(ys:List AV)(i:Int)(r r':Ex × Back):Prop :=
 runL (X3.ask [fLex]) 8 fLex (fn fLex).ntmps (zaaX (code fLex) 0) (zasF Q s r') (zasF Q s r') os 0 fc (zacO s ys i) (zaaM ys) r
def zaD7 (os:Orc)(Q:Int->List AV->Prop)(s:ByteArray)(ys:List AV)(i:Int):Prop:=rLex os [] Q s ys i (zacN 0 s ys) (zacN 0 s ys)
def zaD6 (os:Orc)(Q:Int->List AV->Prop)(s:ByteArray)(ys:List AV)(i:Int):Prop:=rLex os [] Q s ys i (zae4 0 ys i) (zacN 0 s ys)
def zaEa (os:Orc)(Q:Int->List AV->Prop)(s:ByteArray)(ys zs:List AV)(i:Int):Prop:=rLex os [1048577] Q s ys i (zacN 1 s zs) (zacN 0 s zs)
def zaE (os:Orc)(Q:Int->List AV->Prop)(s:ByteArray)(ys zs:List AV)(i:Int):Prop:=rLex os [1048577] Q s ys i (zacN 1 s zs) (zacN 1 s zs)
def zaD9 (os:Orc)(Q:Int->List AV->Prop)(s:ByteArray)(ys zs:List AV)(i j:Int):Prop:=rLex os [1048577] Q s ys i (zae4 1 zs j) (zae4 0 zs j)
def zaD8 (os:Orc)(Q:Int->List AV->Prop)(s:ByteArray)(ys zs:List AV)(i j:Int):Prop:=rLex os [1048577] Q s ys i (zae4 1 zs j) (zae4 1 zs j)
def gLex (os:Orc)(s:ByteArray)(r:Ex × Back)(x:AV):Prop:=runF ((X3.addLp fLex 0 (zasF (fun i ys=>i=0/\ys=[]) s r)).ask [fLex]) 10 fLex (fn fLex) (code fLex) os 1 [] [s0 s] .nil ⟨x,.nil,[]⟩
def zaGc (os:Orc)(s:ByteArray)(zs:List AV):Prop:=gLex os s (zacN 0 s zs) (.tup [.lst false 3 (zs++[.agg [i0 11,i0 s.size,s0 ByteArray.empty]]),.lit .nilIface])
def zaGb (os:Orc)(s:ByteArray)(zs:List AV):Prop:=gLex os s (zacN 1 s zs) (.tup [.lst false 3 (zs++[.agg [i0 11,i0 s.size,s0 ByteArray.empty]]),.lit .nilIface])
def zaGa (os:Orc)(s:ByteArray)(zs:List AV)(j:Int):Prop:=gLex os s (zae4 0 zs j) (.tup [.lst false 3 [],zaau 15 j])
def zaG (os:Orc)(s:ByteArray)(zs:List AV)(j:Int):Prop:=gLex os s (zae4 1 zs j) (.tup [.lst false 3 [],zaau 15 j])
end
end Go.Proofs.YtpofhijgccocpaaGreatDoor
end
section
namespace Go.Proofs.YtpofhijgccocpaaGreatDoor
open Go Go.AS Go.TP
noncomputable abbrev qV30 (ys:List AV)(i3:ByteArray)(i:Int)(s:ByteArray):=(List.take (List.length ys) (List.drop 0 ys)++[AV.agg [i0 (Prod.fst (oneS i3)),i0 i,s0 (ByteArray.extract s (Int.toNat (Option.getD (some i) (0:Int))) (Int.toNat (Option.getD (some (i+Prod.snd (oneS i3))) (↑(ByteArray.size s):Int))))]])
noncomputable abbrev qV31 (zs:List AV)(s:ByteArray):=(List.take (List.length zs) (List.drop 0 zs)++[AV.agg [i0 11,i0 (↑(ByteArray.size s):Int),s0 ⟨⟨[]⟩⟩]])
noncomputable abbrev qV32 (i:Int)(s:ByteArray):=((0:Int)<=Option.getD (some i) (0:Int)/\Option.getD (some i) (0:Int)<=Option.getD none (↑(ByteArray.size s):Int)/\Option.getD none (↑(ByteArray.size s):Int)<=(↑(ByteArray.size s):Int)/\false=false)
noncomputable abbrev qV33 (j:Int):=(AV.tup [AV.lit (Value.slice none 0 0),AV.iface 118 (AV.ref (AV.agg [i0 j,AV.iface 26 (i0 15)]))])
noncomputable abbrev qV34 (i:Int)(i3:ByteArray)(s:ByteArray):=((0:Int)<=Option.getD (some i) (0:Int)/\Option.getD (some i) (0:Int)<=Option.getD (some (i+Prod.snd (oneS i3))) (↑(ByteArray.size s):Int)/\Option.getD (some (i+Prod.snd (oneS i3))) (↑(ByteArray.size s):Int)<=(↑(ByteArray.size s):Int)/\false=false)
noncomputable abbrev qV35 (Q:Int->List AV->Prop) (i4:Int × List AV) (s:ByteArray) (ys:List AV) (i3:ByteArray) (i:Int):=(Q (Prod.fst i4) (Prod.snd i4)/\Wks [s0 s,AV.slc 1048577 [0,0] 0 (List.length (qV30 ys i3 i s)),i0 (i+Prod.snd (oneS i3))] [s0 s,AV.slc 1048577 [0,0] 0 (List.length (Prod.snd i4)),i0 (Prod.fst i4)]/\hpL [eR 1048577 [0,0] 3 (qV30 ys i3 i s)]=hpL [eR 1048577 [0,0] 3 (Prod.snd i4)])
noncomputable abbrev qV36 (i1:Nat)(s:ByteArray)(i:Int):=(i1<256/\Wks [s0 ⟨⟨[(32:UInt8),(9:UInt8),(10:UInt8)]⟩⟩,u0 (↑(zaaa s (Int.toNat i)):Int)] [s0 ⟨⟨[(32:UInt8),(9:UInt8),(10:UInt8)]⟩⟩,u0 (↑i1:Int)]/\hpL []=hpL [])
noncomputable abbrev qV37 (i1:Int × List AV) (s:ByteArray):=((Prod.fst i1=0/\Prod.snd i1=[])/\Wks [s0 s,AV.slc 1048577 [0,0] 0 0,i0 0] [s0 s,AV.slc 1048577 [0,0] 0 (List.length (Prod.snd i1)),i0 (Prod.fst i1)]/\hpL [eR 1048577 [0,0] 3 []]=hpL [eR 1048577 [0,0] 3 (Prod.snd i1)])
noncomputable abbrev qV38 (Q:Int->List AV->Prop) (i2:Int × List AV) (s:ByteArray) (ys:List AV) (i:Int):=(Q (Prod.fst i2) (Prod.snd i2)/\Wks [s0 s,AV.slc 1048577 [0,0] 0 (List.length ys),i0 (i+1)] [s0 s,AV.slc 1048577 [0,0] 0 (List.length (Prod.snd i2)),i0 (Prod.fst i2)]/\hpL [eR 1048577 [0,0] 3 ys]=hpL [eR 1048577 [0,0] 3 (Prod.snd i2)])
noncomputable abbrev qV39 (i3:ByteArray)(s:ByteArray)(i:Int):=((0<ByteArray.size i3/\ByteArray.size i3<=600)/\Wks [s0 (ByteArray.extract s (Int.toNat (Option.getD (some i) (0:Int))) (Int.toNat (Option.getD none (↑(ByteArray.size s):Int))))] [s0 i3]/\hpL []=hpL [])
noncomputable abbrev zap6 (ys:List AV) (i3:ByteArray) (i:Int) (s:ByteArray):=(true&&(true&&Nat.ble (0+List.length ys) (List.length ys))&&(true&&decide (List.length (qV30 ys i3 i s)*32<=140737488355328/\List.length (qV30 ys i3 i s)<=1152921504606846976)))
theorem zar6 (Q:Int->List AV->Prop)(s:ByteArray)(ys:List AV)(i:Int):zaD7 (Orc.f Orc.z) Q s ys i=(let z1:=(AV.tup [s0 s,AV.slc 1048577 [0,0] 0 (List.length ys)]);decide (i<(↑(ByteArray.size s):Int))=false/\Ex.exit 0=Ex.exit 0/\Wk z1 z1/\SameH (hpL [eR 1048577 [0,0] 3 ys]) (hpL [eR 1048577 [0,0] 3 ys])):=by kernel_rfl
theorem zar4 (Q:Int->List AV->Prop)(s:ByteArray)(ys:List AV)(i:Int):zaD6 (Orc.t (Orc.f (Orc.t Orc.z))) Q s ys i=(let z1:=(AV.tup [AV.lit (Value.slice none 0 0),AV.iface 118 (AV.ref (AV.agg [i0 i,AV.iface 26 (i0 15)]))]);let z2:=(↑(ByteArray.size s):Int);decide (i<z2)=true/\decide ((0:Int)<=i/\i<z2)=true/\∃ (i1:Nat),(qV36 i1 s i)/\decide (zadK i1>=0)=false/\decide (qV32 i s)=true/\∃ (i2:ByteArray),((0<ByteArray.size i2/\ByteArray.size i2<=600)/\Wks [s0 (ByteArray.extract s (Int.toNat (Option.getD (some i) (0:Int))) (Int.toNat (Option.getD none z2)))] [s0 i2]/\hpL []=hpL [])/\(Prod.fst (oneS i2)==0)=true/\Ex.ret=Ex.ret/\Wk z1 z1/\SameH (hpL [eR 1048577 [0,0] 3 ys]) (hpL [eR 1048577 [0,0] 3 ys])):=by kernel_rfl
def zawP:Orc:=Orc.t (Orc.s Orc.z (Orc.f Orc.z))
theorem zas (Q:Int->List AV->Prop)(s:ByteArray)(ys zs:List AV)(i:Int):zaEa zawP Q s ys zs i=(decide (i<(↑(ByteArray.size s):Int))=true/\decide ((0:Int)<=i/\i<(↑(ByteArray.size s):Int))=true/\∃ (i1:Nat),(qV36 i1 s i)/\(decide (zadK i1>=0)=true->inR IntKind.i64 (i+1)=true/\∃ (i2:Int × List AV),(qV38 Q i2 s ys i)/\Ex.exit 0=Ex.exit 0/\Wk (AV.tup [s0 s,AV.slc 1048577 [0,1] 0 (List.length zs)]) (AV.tup [s0 s,AV.slc 1048577 [0,1] 0 (List.length zs)])/\SameH (hpL [eR 1048577 [0,1] 3 zs]) (hpL [eR 1048577 [0,1] 3 zs]))/\(decide (zadK i1>=0)=false->decide (qV32 i s)=true/\∃ (i3:ByteArray),(qV39 i3 s i)/\(Prod.fst (oneS i3)==0)=false/\inR IntKind.i64 (i+Prod.snd (oneS i3))=true/\decide (qV34 i i3 s)=true/\(zap6 ys i3 i s)=true/\inR IntKind.i64 (i+Prod.snd (oneS i3))=true/\∃ (i4:Int × List AV),(qV35 Q i4 s ys i3 i)/\Ex.exit 0=Ex.exit 0/\Wk (AV.tup [s0 s,AV.slc 1048577 [0,1] 0 (List.length zs)]) (AV.tup [s0 s,AV.slc 1048577 [0,1] 0 (List.length zs)])/\SameH (hpL [eR 1048577 [0,1] 3 zs]) (hpL [eR 1048577 [0,1] 3 zs]))):=by kernel_rfl
def zawO:Orc:=Orc.t (Orc.s Orc.z (Orc.f Orc.z))
theorem zar9 (Q:Int->List AV->Prop)(s:ByteArray)(ys zs:List AV)(i:Int):zaE zawO Q s ys zs i=(decide (i<(↑(ByteArray.size s):Int))=true/\decide ((0:Int)<=i/\i<(↑(ByteArray.size s):Int))=true/\∃ (i1:Nat),(qV36 i1 s i)/\(decide (zadK i1>=0)=true->inR IntKind.i64 (i+1)=true/\∃ (i2:Int × List AV),(qV38 Q i2 s ys i)/\Ex.exit 0=Ex.exit 0/\Wk (AV.tup [s0 s,AV.slc 1048577 [0,1] 0 (List.length zs)]) (AV.tup [s0 s,AV.slc 1048577 [0,1] 0 (List.length zs)])/\SameH (hpL [eR 1048577 [0,1] 3 zs]) (hpL [eR 1048577 [0,1] 3 zs]))/\(decide (zadK i1>=0)=false->decide (qV32 i s)=true/\∃ (i3:ByteArray),(qV39 i3 s i)/\(Prod.fst (oneS i3)==0)=false/\inR IntKind.i64 (i+Prod.snd (oneS i3))=true/\decide (qV34 i i3 s)=true/\(zap6 ys i3 i s)=true/\inR IntKind.i64 (i+Prod.snd (oneS i3))=true/\∃ (i4:Int × List AV),(qV35 Q i4 s ys i3 i)/\Ex.exit 0=Ex.exit 0/\Wk (AV.tup [s0 s,AV.slc 1048577 [0,1] 0 (List.length zs)]) (AV.tup [s0 s,AV.slc 1048577 [0,1] 0 (List.length zs)])/\SameH (hpL [eR 1048577 [0,1] 3 zs]) (hpL [eR 1048577 [0,1] 3 zs]))):=by kernel_rfl
def zawN:Orc:=Orc.t (Orc.s Orc.z (Orc.f Orc.z))
theorem zar8 (Q:Int->List AV->Prop)(s:ByteArray)(ys zs:List AV)(i j:Int):zaD9 zawN Q s ys zs i j=(decide (i<(↑(ByteArray.size s):Int))=true/\decide ((0:Int)<=i/\i<(↑(ByteArray.size s):Int))=true/\∃ (i1:Nat),(qV36 i1 s i)/\(decide (zadK i1>=0)=true->inR IntKind.i64 (i+1)=true/\∃ (i2:Int × List AV),(qV38 Q i2 s ys i)/\Ex.ret=Ex.ret/\Wk (qV33 j) (qV33 j)/\SameH (hpL [eR 1048577 [0,1] 3 zs]) (hpL [eR 1048577 [0,1] 3 zs]))/\(decide (zadK i1>=0)=false->decide (qV32 i s)=true/\∃ (i3:ByteArray),(qV39 i3 s i)/\(Prod.fst (oneS i3)==0)=false/\inR IntKind.i64 (i+Prod.snd (oneS i3))=true/\decide (qV34 i i3 s)=true/\(zap6 ys i3 i s)=true/\inR IntKind.i64 (i+Prod.snd (oneS i3))=true/\∃ (i4:Int × List AV),(qV35 Q i4 s ys i3 i)/\Ex.ret=Ex.ret/\Wk (qV33 j) (qV33 j)/\SameH (hpL [eR 1048577 [0,1] 3 zs]) (hpL [eR 1048577 [0,1] 3 zs]))):=by kernel_rfl
def zawM:Orc:=Orc.t (Orc.s Orc.z (Orc.f Orc.z))
theorem zar7 (Q:Int->List AV->Prop)(s:ByteArray)(ys zs:List AV)(i j:Int):zaD8 zawM Q s ys zs i j=(decide (i<(↑(ByteArray.size s):Int))=true/\decide ((0:Int)<=i/\i<(↑(ByteArray.size s):Int))=true/\∃ (i1:Nat),(qV36 i1 s i)/\(decide (zadK i1>=0)=true->inR IntKind.i64 (i+1)=true/\∃ (i2:Int × List AV),(qV38 Q i2 s ys i)/\Ex.ret=Ex.ret/\Wk (qV33 j) (qV33 j)/\SameH (hpL [eR 1048577 [0,1] 3 zs]) (hpL [eR 1048577 [0,1] 3 zs]))/\(decide (zadK i1>=0)=false->decide (qV32 i s)=true/\∃ (i3:ByteArray),(qV39 i3 s i)/\(Prod.fst (oneS i3)==0)=false/\inR IntKind.i64 (i+Prod.snd (oneS i3))=true/\decide (qV34 i i3 s)=true/\(zap6 ys i3 i s)=true/\inR IntKind.i64 (i+Prod.snd (oneS i3))=true/\∃ (i4:Int × List AV),(qV35 Q i4 s ys i3 i)/\Ex.ret=Ex.ret/\Wk (qV33 j) (qV33 j)/\SameH (hpL [eR 1048577 [0,1] 3 zs]) (hpL [eR 1048577 [0,1] 3 zs]))):=by kernel_rfl
theorem zatR (s:ByteArray)(zs:List AV):zaGc (Orc.f Orc.z) s zs=(decide ((↑(ByteArray.size s):Int)>600)=false/\∃ (i1:Int × List AV),(qV37 i1 s)/\(true&&(Nat.beq 3 3&&Nat.ble (0+List.length zs) (List.length zs))&&(Nat.beq 3 3&&decide (List.length (qV31 zs s)*32<=140737488355328/\List.length (qV31 zs s)<=1152921504606846976)))=true/\0+List.length (qV31 zs s)<=List.length (qV31 zs s)/\Wk (AV.tup [L3 (List.take (List.length (qV31 zs s)) (List.drop 0 (qV31 zs s))),AV.lit Value.nilIface]) (AV.tup [L3 (zs++[AV.agg [i0 11,i0 (↑(ByteArray.size s):Int),s0 ByteArray.empty]]),AV.lit Value.nilIface])/\S0):=by kernel_rfl
theorem zatP (s:ByteArray)(zs:List AV):zaGb (Orc.f Orc.z) s zs=(decide ((↑(ByteArray.size s):Int)>600)=false/\∃ (i1:Int × List AV),(qV37 i1 s)/\(true&&(Nat.beq 3 3&&Nat.ble (0+List.length zs) (List.length zs))&&(Nat.beq 3 3&&decide (List.length (qV31 zs s)*32<=140737488355328/\List.length (qV31 zs s)<=1152921504606846976)))=true/\0+List.length (qV31 zs s)<=List.length (qV31 zs s)/\Wk (AV.tup [L3 (List.take (List.length (qV31 zs s)) (List.drop 0 (qV31 zs s))),AV.lit Value.nilIface]) (AV.tup [L3 (zs++[AV.agg [i0 11,i0 (↑(ByteArray.size s):Int),s0 ByteArray.empty]]),AV.lit Value.nilIface])/\S0):=by kernel_rfl
theorem zatN (s:ByteArray)(zs:List AV)(j:Int):zaGa (Orc.f Orc.z) s zs j=(decide ((↑(ByteArray.size s):Int)>600)=false/\∃ (i1:Int × List AV),(qV37 i1 s)/\Wk (qV33 j) (AV.tup [L3 [],AV.iface 118 (AV.ref (AV.agg [i0 j,AV.iface 26 (i0 15)]))])/\S0):=by kernel_rfl
theorem zatL (s:ByteArray)(zs:List AV)(j:Int):zaG (Orc.f Orc.z) s zs j=(decide ((↑(ByteArray.size s):Int)>600)=false/\∃ (i1:Int × List AV),(qV37 i1 s)/\Wk (qV33 j) (AV.tup [L3 [],AV.iface 118 (AV.ref (AV.agg [i0 j,AV.iface 26 (i0 15)]))])/\S0):=by kernel_rfl
end Go.Proofs.YtpofhijgccocpaaGreatDoor
end
section
namespace Go.Proofs.YtpofhijgccocpaaGreatDoor
open Go.AS Go.TP
noncomputable section
theorem zabx (c:Nat):(0<=zadK c)=(zabC c=true):=by grind [zadK,zabC]
variable {s:ByteArray} {ys zs:List AV} {i:Int}
theorem zagH {p:ByteArray}(h:hasP s p=true):p.size<=s.size:=by grind [hasP]
theorem zavD (s:ByteArray)(h0:0<s.size)(h:(zaif s).1≠0):1<=(zaif s).2/\(zaif s).2<=s.size:=by
 unfold zaif zafi at h ⊢
 generalize zaaa s 0=c at h ⊢
 have e1:bCC.size=2:=rfl
 have e2:bDD.size=2:=rfl
 have h1:(1:Int)<=s.size:=by omega
 by_cases k1:c=58
 · rw [if_pos k1] at h ⊢
   by_cases k2:hasP s bCC=true
   · have:=zagH k2
     rw [if_pos k2];constructor
     · show (1:Int)<=2;omega
     · show (2:Int)<=s.size;omega
   · rw [if_neg k2] at h ⊢
     by_cases k3:hasP s bDD=true
     · have:=zagH k3
       rw [if_pos k3];constructor
       · show (1:Int)<=2;omega
       · show (2:Int)<=s.size;omega
     · rw [if_neg k3] at h;exact absurd rfl h
 rw [if_neg k1] at h ⊢
 by_cases k1:c=46
 · rw [if_pos k1] at h ⊢
   by_cases k3:hasP s bDD=true
   · have:=zagH k3
     rw [if_pos k3];constructor
     · show (1:Int)<=2;omega
     · show (2:Int)<=s.size;omega
   · rw [if_neg k3] at h;exact absurd rfl h
 rw [if_neg k1] at h ⊢
 by_cases k:c=40
 · rw [if_pos k];exact ⟨Int.le_refl _,h1⟩
 rw [if_neg k] at h ⊢
 by_cases k:c=41
 · rw [if_pos k];exact ⟨Int.le_refl _,h1⟩
 rw [if_neg k] at h ⊢
 by_cases k:c=44
 · rw [if_pos k];exact ⟨Int.le_refl _,h1⟩
 rw [if_neg k] at h ⊢
 by_cases k:c=43∨c=124
 · rw [if_pos k];exact ⟨Int.le_refl _,h1⟩
 rw [if_neg k] at h ⊢
 by_cases k:c=45
 · rw [if_pos k];exact ⟨Int.le_refl _,h1⟩
 rw [if_neg k] at h ⊢
 by_cases k:c=38
 · rw [if_pos k];exact ⟨Int.le_refl _,h1⟩
 rw [if_neg k] at h ⊢
 by_cases k:c=33
 · rw [if_pos k];exact ⟨Int.le_refl _,h1⟩
 rw [if_neg k] at h ⊢
 exact absurd rfl h
theorem zaip (s:ByteArray)(h0:0<s.size)(h:(oneS s).1≠0):1<=(oneS s).2/\(oneS s).2<=s.size:=by
 unfold oneS at h ⊢
 have hw:=zah7 s
 by_cases k:0<zadM s
 · rw [if_pos k];exact ⟨by show (1:Int)<=zadM s;omega,hw.2⟩
 · rw [if_neg k] at h ⊢;exact zavD s h0 h
abbrev zaaK (s:ByteArray)(i:Int):ByteArray:=s.extract i.toNat s.size
theorem zabb (s:ByteArray)(i:Int)(h0:0<=i)(h1:i<=s.size):((zaaK s i).size:Int)=s.size-i:=by
 rw [ByteArray.size_extract];omega
abbrev zahY (s:ByteArray)(i:Int):Tk:=⟨(oneS (zaaK s i)).1,i,s.extract i.toNat (i+(oneS (zaaK s i)).2).toNat⟩
theorem zalA {Q:Int->List AV->Prop}(h:¬i<s.size):zaD7 (Orc.f Orc.z) Q s ys i:=by
 rw [zar6];exact ⟨decide_eq_false h,rfl,.refl _,.rfl⟩
theorem zar5 {Q:Int->List AV->Prop}(hs:s.size<=600)(h0:0<=i)(h:i<s.size)(hb:zabC (zaaa s i.toNat)=false)(ho:(oneS (zaaK s i)).1=0):zaD6 (Orc.t (Orc.f (Orc.t Orc.z))) Q s ys i:=by
 rw [zar4]
 have hr:=zabb s i h0 (by omega)
 exact ⟨decide_eq_true h,decide_eq_true ⟨h0,h⟩,_,⟨zaaC _ _,.refl _,rfl⟩,decide_eq_false (by rw [ge_iff_le,zabx,hb];decide),decide_eq_true ⟨h0,by show i<=s.size;omega,Int.le_refl _,rfl⟩,zaaK s i,
  ⟨⟨by omega,by omega⟩,.refl _,rfl⟩,beq_iff_eq.2 ho,rfl,.refl _,.rfl⟩
theorem zalE {Q:Int->List AV->Prop} (hs:s.size<=600) (hy:ys.length<=600) (h0:0<=i) (h:i<s.size) (h1:zabC (zaaa s i.toNat)=true->Q (i+1) ys)
  (h2:zabC (zaaa s i.toNat)=false->(oneS (zaaK s i)).1≠0/\Q (i+(oneS (zaaK s i)).2) (ys++[encT (zahY s i)])):zaEa zawP Q s ys zs i:=by
 rw [zas];delta qV30 qV32 qV34 qV35 qV36 qV38 qV39 zap6
 have hr:=zabb s i h0 (by omega)
 have e:List.take ys.length (List.drop 0 ys)=ys:=by rw [List.drop_zero,List.take_length]
 rw [e]
 refine ⟨decide_eq_true h,decide_eq_true ⟨h0,h⟩,_,⟨zaaC _ _,.refl _,rfl⟩,fun g => ?_,fun g => ?_⟩
 · have g:=of_decide_eq_true g
   rw [ge_iff_le,zabx] at g
   exact ⟨zaag (by omega) (by omega),(_,ys),⟨h1 g,.refl _,rfl⟩,rfl,.refl _,.rfl⟩
 · have g:=of_decide_eq_false g
   rw [ge_iff_le,zabx,Bool.not_eq_true] at g
   obtain ⟨k1,k2⟩:=h2 g
   have k3:=zaip (zaaK s i) (by omega) k1
   refine ⟨decide_eq_true ⟨h0,by show i<=s.size;omega,Int.le_refl _,rfl⟩,zaaK s i,⟨⟨by omega,by omega⟩,.refl _,rfl⟩,beq_eq_false_iff_ne.2 k1,zaag (by omega) (by omega),decide_eq_true ⟨h0,?_,?_,rfl⟩,?_,zaag (by omega) (by omega),(_,_),⟨k2,.refl _,rfl⟩,rfl,.refl _,.rfl⟩
   · show i<=i+(oneS (zaaK s i)).2;omega
   · show i+(oneS (zaaK s i)).2<=s.size;omega
   · simp;omega
theorem zalD {Q:Int->List AV->Prop} (hs:s.size<=600) (hy:ys.length<=600) (h0:0<=i) (h:i<s.size) (h1:zabC (zaaa s i.toNat)=true->Q (i+1) ys)
  (h2:zabC (zaaa s i.toNat)=false->(oneS (zaaK s i)).1≠0/\Q (i+(oneS (zaaK s i)).2) (ys++[encT (zahY s i)])):zaE zawO Q s ys zs i:=by
 rw [zar9];delta qV30 qV32 qV34 qV35 qV36 qV38 qV39 zap6
 have hr:=zabb s i h0 (by omega)
 have e:List.take ys.length (List.drop 0 ys)=ys:=by rw [List.drop_zero,List.take_length]
 rw [e]
 refine ⟨decide_eq_true h,decide_eq_true ⟨h0,h⟩,_,⟨zaaC _ _,.refl _,rfl⟩,fun g => ?_,fun g => ?_⟩
 · have g:=of_decide_eq_true g
   rw [ge_iff_le,zabx] at g
   exact ⟨zaag (by omega) (by omega),(_,ys),⟨h1 g,.refl _,rfl⟩,rfl,.refl _,.rfl⟩
 · have g:=of_decide_eq_false g
   rw [ge_iff_le,zabx,Bool.not_eq_true] at g
   obtain ⟨k1,k2⟩:=h2 g
   have k3:=zaip (zaaK s i) (by omega) k1
   refine ⟨decide_eq_true ⟨h0,by show i<=s.size;omega,Int.le_refl _,rfl⟩,zaaK s i,⟨⟨by omega,by omega⟩,.refl _,rfl⟩,beq_eq_false_iff_ne.2 k1,zaag (by omega) (by omega),decide_eq_true ⟨h0,?_,?_,rfl⟩,?_,zaag (by omega) (by omega),(_,_),⟨k2,.refl _,rfl⟩,rfl,.refl _,.rfl⟩
   · show i<=i+(oneS (zaaK s i)).2;omega
   · show i+(oneS (zaaK s i)).2<=s.size;omega
   · simp;omega
theorem zalC {Q:Int->List AV->Prop} {j:Int} (hs:s.size<=600) (hy:ys.length<=600) (h0:0<=i) (h:i<s.size) (h1:zabC (zaaa s i.toNat)=true->Q (i+1) ys)
  (h2:zabC (zaaa s i.toNat)=false->(oneS (zaaK s i)).1≠0/\Q (i+(oneS (zaaK s i)).2) (ys++[encT (zahY s i)])):zaD9 zawN Q s ys zs i j:=by
 rw [zar8];delta qV30 qV32 qV33 qV34 qV35 qV36 qV38 qV39 zap6
 have hr:=zabb s i h0 (by omega)
 have e:List.take ys.length (List.drop 0 ys)=ys:=by rw [List.drop_zero,List.take_length]
 rw [e]
 refine ⟨decide_eq_true h,decide_eq_true ⟨h0,h⟩,_,⟨zaaC _ _,.refl _,rfl⟩,fun g => ?_,fun g => ?_⟩
 · have g:=of_decide_eq_true g
   rw [ge_iff_le,zabx] at g
   exact ⟨zaag (by omega) (by omega),(_,ys),⟨h1 g,.refl _,rfl⟩,rfl,.refl _,.rfl⟩
 · have g:=of_decide_eq_false g
   rw [ge_iff_le,zabx,Bool.not_eq_true] at g
   obtain ⟨k1,k2⟩:=h2 g
   have k3:=zaip (zaaK s i) (by omega) k1
   refine ⟨decide_eq_true ⟨h0,by show i<=s.size;omega,Int.le_refl _,rfl⟩,zaaK s i,⟨⟨by omega,by omega⟩,.refl _,rfl⟩,beq_eq_false_iff_ne.2 k1,zaag (by omega) (by omega),decide_eq_true ⟨h0,?_,?_,rfl⟩,?_,zaag (by omega) (by omega),(_,_),⟨k2,.refl _,rfl⟩,rfl,.refl _,.rfl⟩
   · show i<=i+(oneS (zaaK s i)).2;omega
   · show i+(oneS (zaaK s i)).2<=s.size;omega
   · simp;omega
theorem zalB {Q:Int->List AV->Prop} {j:Int} (hs:s.size<=600) (hy:ys.length<=600) (h0:0<=i) (h:i<s.size) (h1:zabC (zaaa s i.toNat)=true->Q (i+1) ys)
  (h2:zabC (zaaa s i.toNat)=false->(oneS (zaaK s i)).1≠0/\Q (i+(oneS (zaaK s i)).2) (ys++[encT (zahY s i)])):zaD8 zawM Q s ys zs i j:=by
 rw [zar7];delta qV30 qV32 qV33 qV34 qV35 qV36 qV38 qV39 zap6
 have hr:=zabb s i h0 (by omega)
 have e:List.take ys.length (List.drop 0 ys)=ys:=by rw [List.drop_zero,List.take_length]
 rw [e]
 refine ⟨decide_eq_true h,decide_eq_true ⟨h0,h⟩,_,⟨zaaC _ _,.refl _,rfl⟩,fun g => ?_,fun g => ?_⟩
 · have g:=of_decide_eq_true g
   rw [ge_iff_le,zabx] at g
   exact ⟨zaag (by omega) (by omega),(_,ys),⟨h1 g,.refl _,rfl⟩,rfl,.refl _,.rfl⟩
 · have g:=of_decide_eq_false g
   rw [ge_iff_le,zabx,Bool.not_eq_true] at g
   obtain ⟨k1,k2⟩:=h2 g
   have k3:=zaip (zaaK s i) (by omega) k1
   refine ⟨decide_eq_true ⟨h0,by show i<=s.size;omega,Int.le_refl _,rfl⟩,zaaK s i,⟨⟨by omega,by omega⟩,.refl _,rfl⟩,beq_eq_false_iff_ne.2 k1,zaag (by omega) (by omega),decide_eq_true ⟨h0,?_,?_,rfl⟩,?_,zaag (by omega) (by omega),(_,_),⟨k2,.refl _,rfl⟩,rfl,.refl _,.rfl⟩
   · show i<=i+(oneS (zaaK s i)).2;omega
   · show i+(oneS (zaaK s i)).2<=s.size;omega
   · simp;omega
abbrev BLex (xs:List AV)(σ:Hp)(r:Ex × Back):Prop:=zab9 Tryz.prog gl0 (fn fLex).ntmps (zaaX (code fLex) 0) [0,4,5] zaqB xs σ fun _ q=>q=r
abbrev zaxr (Q:Int->List AV->Prop)(s:ByteArray)(r:Ex × Back):Spl:=⟨Int × List AV,fun q=>Q q.1 q.2,fun q=>zacO s q.2 q.1,fun q=>zaaM q.2,fun _=>r⟩
theorem zabX {os:Orc}{fc:List Nat}{Q:Int->List AV->Prop}{r r':Ex × Back}(ih:∀ i' ys',Q i' ys'->BLex (zacO s ys' i') (zaaM ys') r')(h:rLex os fc Q s ys i r r'):BLex (zacO s ys i) (zaaM ys) r :=
 zad1 (X:=X3.ask [fLex]) (zaDx.ask _) (f:=fLex) (fn:=fn fLex) (code:=code fLex) (fnOk fLex (by kernel_rfl)) (show (fn fLex).body=some (code fLex) by kernel_rfl) (L:=zasF Q s r') (L':=zasF Q s r') (l:=[zaxr Q s r']) rfl (show ([0,4,5]:List Nat).Nodup by decide)
  (fun s' hs' q hq=>by obtain rfl:=List.mem_singleton.1 hs';exact ih q.1 q.2 hq) h
def zar (s:ByteArray)(r:Option Int × List Tk)(q:Ex × Back):Prop:=match r with
 | (none,ts)=>∃ c,(c=0∨c=1)/\q=zacN c s (ts.map encT)
 | (some j,_)=>∃ c ys,(c=0∨c=1)/\q=zae4 c ys j
attribute [local irreducible] runL in
theorem lexL (s:ByteArray)(hs:s.size<=600):∀ (f:Nat) (i:Int) (out:List Tk),0<=i->s.size-i<=f->out.length+(s.size-i)<=600->i<=s.size ->
  ∃ q,zar s (lexG s f i out) q/\BLex (zacO s (out.map encT) i) (zaaM (out.map encT)) q:=by
 intro f
 induction f with
 | zero =>
  intro i out h0 h1 _ _
  exact ⟨zacN 0 s (out.map encT),⟨0,.inl rfl,rfl⟩,zabX (Q:=fun _ _=>False) (r':=zacN 0 s (out.map encT)) (fun _ _ h=>h.elim) (zalA (by omega))⟩
 | succ f ih =>
  intro i out h0 h1 hl h2
  rw [lexG]
  by_cases hi:i<s.size
  · rw [if_pos hi]
    have hr:=zabb s i h0 h2
    by_cases hb:zabC (zaaa s i.toNat)=true
    · rw [if_pos hb]
      obtain ⟨q,hq,hB⟩:=ih (i+1) out (by omega) (by omega) (by omega) (by omega)
      have hQ:∀ i' ys',(i'=i+1/\ys'=out.map encT)->BLex (zacO s ys' i') (zaaM ys') q:=fun i' ys' h=>by rw [h.1,h.2];exact hB
      have hy:(out.map encT).length<=600:=by rw [List.length_map];omega
      generalize lexG s f (i+1) out=R at hq
      obtain ⟨_|j,ts⟩:=R
      · obtain ⟨c,hc,rfl⟩:=hq
        refine ⟨zacN 1 s (ts.map encT),⟨1,.inr rfl,rfl⟩,?_⟩
        rcases hc with rfl|rfl
        · exact zabX hQ (zalE hs hy h0 hi (fun _=>⟨rfl,rfl⟩) (fun h=>by rw [hb] at h;cases h))
        · exact zabX hQ (zalD hs hy h0 hi (fun _=>⟨rfl,rfl⟩) (fun h=>by rw [hb] at h;cases h))
      · obtain ⟨c,ys,hc,rfl⟩:=hq
        refine ⟨zae4 1 ys j,⟨1,ys,.inr rfl,rfl⟩,?_⟩
        rcases hc with rfl|rfl
        · exact zabX hQ (zalC hs hy h0 hi (fun _=>⟨rfl,rfl⟩) (fun h=>by rw [hb] at h;cases h))
        · exact zabX hQ (zalB hs hy h0 hi (fun _=>⟨rfl,rfl⟩) (fun h=>by rw [hb] at h;cases h))
    · rw [if_neg hb]
      have hb':zabC (zaaa s i.toNat)=false:=by simpa using hb
      show ∃ q,zar s (if (oneS (zaaK s i)).1=0 then (some i,[]) else lexG s f (i+(oneS (zaaK s i)).2) (out++[zahY s i])) q/\_
      by_cases ho:(oneS (zaaK s i)).1=0
      · rw [if_pos ho]
        exact ⟨zae4 0 (out.map encT) i,⟨0,_,.inl rfl,rfl⟩,zabX (Q:=fun _ _=>False) (r':=zacN 0 s (out.map encT)) (fun _ _ h=>h.elim) (zar5 hs h0 hi hb' ho)⟩
      · rw [if_neg ho]
        have k3:=zaip (zaaK s i) (by omega) ho
        obtain ⟨q,hq,hB⟩:=ih (i+(oneS (zaaK s i)).2) (out++[zahY s i]) (by omega) (by omega) (by rw [List.length_append,List.length_singleton];omega) (by omega)
        have hQ:∀ i' ys',(i'=i+(oneS (zaaK s i)).2/\ys'=out.map encT++[encT (zahY s i)])->BLex (zacO s ys' i') (zaaM ys') q:=fun i' ys' h=>by rw [h.1,h.2];rw [List.map_append] at hB;exact hB
        have hy:(out.map encT).length<=600:=by rw [List.length_map];omega
        generalize lexG s f (i+(oneS (zaaK s i)).2) (out++[zahY s i])=R at hq
        obtain ⟨_|j,ts⟩:=R
        · obtain ⟨c,hc,rfl⟩:=hq
          refine ⟨zacN 1 s (ts.map encT),⟨1,.inr rfl,rfl⟩,?_⟩
          rcases hc with rfl|rfl
          · exact zabX hQ (zalE hs hy h0 hi (fun h=>by rw [hb'] at h;cases h) (fun _=>⟨ho,rfl,rfl⟩))
          · exact zabX hQ (zalD hs hy h0 hi (fun h=>by rw [hb'] at h;cases h) (fun _=>⟨ho,rfl,rfl⟩))
        · obtain ⟨c,ys,hc,rfl⟩:=hq
          refine ⟨zae4 1 ys j,⟨1,ys,.inr rfl,rfl⟩,?_⟩
          rcases hc with rfl|rfl
          · exact zabX hQ (zalC hs hy h0 hi (fun h=>by rw [hb'] at h;cases h) (fun _=>⟨ho,rfl,rfl⟩))
          · exact zabX hQ (zalB hs hy h0 hi (fun h=>by rw [hb'] at h;cases h) (fun _=>⟨ho,rfl,rfl⟩))
  · rw [if_neg hi]
    exact ⟨zacN 0 s (out.map encT),⟨0,.inl rfl,rfl⟩,zabX (Q:=fun _ _=>False) (r':=zacN 0 s (out.map encT)) (fun _ _ h=>h.elim) (zalA hi)⟩
theorem zatS (s:ByteArray)(zs:List AV)(h:s.size<=600)(hz:zs.length<=600):zaGc (Orc.f Orc.z) s zs:=by
 rw [zatR];delta qV31 qV37
 have e:List.take zs.length (List.drop 0 zs)=zs:=by rw [List.drop_zero,List.take_length]
 have e2:∀ l:List AV,List.take l.length (List.drop 0 l)=l:=fun l=>by rw [List.drop_zero,List.take_length]
 rw [e,e2]
 exact ⟨decide_eq_false (by omega),(_,_),⟨⟨rfl,rfl⟩,.refl _,rfl⟩,by simp;omega,by simp,.refl _,.rfl⟩
theorem zatQ (s:ByteArray)(zs:List AV)(h:s.size<=600)(hz:zs.length<=600):zaGb (Orc.f Orc.z) s zs:=by
 rw [zatP];delta qV31 qV37
 have e:List.take zs.length (List.drop 0 zs)=zs:=by rw [List.drop_zero,List.take_length]
 have e2:∀ l:List AV,List.take l.length (List.drop 0 l)=l:=fun l=>by rw [List.drop_zero,List.take_length]
 rw [e,e2]
 exact ⟨decide_eq_false (by omega),(_,_),⟨⟨rfl,rfl⟩,.refl _,rfl⟩,by simp;omega,by simp,.refl _,.rfl⟩
theorem zatO (s:ByteArray)(zs:List AV)(j:Int)(h:s.size<=600):zaGa (Orc.f Orc.z) s zs j:=by
 rw [zatN];exact ⟨decide_eq_false (by omega),(_,_),⟨⟨rfl,rfl⟩,.refl _,rfl⟩,.tup (.cons .nilS (.refl _)),.rfl⟩
theorem zatM (s:ByteArray)(zs:List AV)(j:Int)(h:s.size<=600):zaG (Orc.f Orc.z) s zs j:=by
 rw [zatL];exact ⟨decide_eq_false (by omega),(_,_),⟨⟨rfl,rfl⟩,.refl _,rfl⟩,.tup (.cons .nilS (.refl _)),.rfl⟩
def zaAx:LexR->AV
 | .long => .tup [.lst false 3 [],.iface zai (i0 5)]
 | .bad i => .tup [.lst false 3 [],zaau 15 i]
 | .ok ts => .tup [.lst false 3 (ts.map encT),.lit .nilIface]
theorem zac2 (s:ByteArray):∀ (f:Nat) (i:Int) (out ts:List Tk),0<=i->i<=s.size->lexG s f i out=(none,ts)->(ts.length:Int)<=out.length+(s.size-i):=by
 intro f
 induction f with
 | zero=>intro i out ts h0 h2 h;cases h;omega
 | succ f ih =>
  intro i out ts h0 h2 h
  rw [lexG] at h
  by_cases hi:i<s.size
  · rw [if_pos hi] at h
    have hr:=zabb s i h0 h2
    by_cases hb:zabC (zaaa s i.toNat)=true
    · rw [if_pos hb] at h
      have:=ih (i+1) out ts (by omega) (by omega) h
      omega
    · rw [if_neg hb] at h
      have h:(if (oneS (zaaK s i)).1=0 then (some i,[]) else lexG s f (i+(oneS (zaaK s i)).2) (out++[zahY s i]))=(none,ts):=h
      by_cases ho:(oneS (zaaK s i)).1=0
      · rw [if_pos ho] at h;cases h
      · rw [if_neg ho] at h
        have k3:=zaip (zaaK s i) (by omega) ho
        have:=ih _ _ ts (by omega) (by omega) h
        rw [List.length_append,List.length_singleton] at this
        omega
  · rw [if_neg hi] at h;cases h;omega
theorem zaCs {s:ByteArray}{q:Ex × Back}(h:BLex (zacO s [] 0) (zaaM []) q):(X3.addLp fLex 0 (zasF (fun i ys=>i=0/\ys=[]) s q)).Sound :=
 zaDx.addLp (fnOk fLex (by kernel_rfl)) (show (fn fLex).body=some (code fLex) by kernel_rfl) (by kernel_rfl)
  (Spl.ok (l:=[zaxr (fun i ys=>i=0/\ys=[]) s q]) rfl (show ([0,4,5]:List Nat).Nodup by decide) fun s' hs' i hi=>by
   obtain rfl:=List.mem_singleton.1 hs'
   obtain ⟨h1,h2⟩:=hi
   show BLex (zacO s i.2 i.1) (zaaM i.2) q
   rw [h1,h2];exact h)
abbrev FLex (s:ByteArray)(x:AV):Prop:=F fLex [s0 s] x
attribute [local irreducible] runF in
theorem zaBB {s:ByteArray}{q:Ex × Back}{os:Orc}{x:AV}(h:BLex (zacO s [] 0) (zaaM []) q)(hg:gLex os s q x):FLex s x :=
 zade (X:=(X3.addLp fLex 0 (zasF (fun i ys=>i=0/\ys=[]) s q)).ask [fLex]) (d:=10) ((zaCs h).ask _) (f:=fLex) (fn:=fn fLex) (code:=code fLex) (fnOk fLex (by kernel_rfl)) (show (fn fLex).body=some (code fLex) by kernel_rfl) (by kernel_rfl) hg
def zaF9 (os:Orc)(s:ByteArray):Prop:=runF (X3.ask [fLex]) 10 fLex (fn fLex) (code fLex) os 1 [] [s0 s] .nil ⟨.tup [.lst false 3 [],.iface zai (i0 5)],.nil,[]⟩
end
end Go.Proofs.YtpofhijgccocpaaGreatDoor
end
section
namespace Go.Proofs.YtpofhijgccocpaaGreatDoor
open Go Go.AS Go.TP
theorem zatJ (s:ByteArray):zaF9 (Orc.t Orc.z) s=(decide ((↑(ByteArray.size s):Int)>600)=true/\Wk (AV.tup [AV.lit (Value.slice none 0 0),AV.iface 26 (i0 5)]) (AV.tup [L3 [],AV.iface 26 (i0 5)])/\S0):=by kernel_rfl
end Go.Proofs.YtpofhijgccocpaaGreatDoor
end
section
namespace Go.Proofs.YtpofhijgccocpaaGreatDoor
open Go.AS Go.TP
noncomputable section
theorem zatK (s:ByteArray)(h:600<s.size):zaF9 (Orc.t Orc.z) s:=by
 rw [zatJ];exact ⟨decide_eq_true (by omega),.tup (.cons .nilS (.refl _)),.rfl⟩
attribute [local irreducible] runF in
theorem zaCr (s:ByteArray):FLex s (zaAx (lexS s)):=by
 unfold lexS
 by_cases h:600<s.size
 · rw [if_pos h]
   exact zade (X:=X3.ask [fLex]) (d:=10) (zaDx.ask _) (f:=fLex) (fn:=fn fLex) (code:=code fLex) (fnOk fLex (by kernel_rfl)) (show (fn fLex).body=some (code fLex) by kernel_rfl) (by kernel_rfl) (zatK s h)
 · rw [if_neg h]
   have hs:s.size<=600:=by omega
   obtain ⟨q,hq,hB⟩:=lexL s hs s.size 0 [] (Int.le_refl _) (by omega) (by show (0:Int)+_<=_;omega) (by omega)
   have hlen:=zac2 s s.size 0 []
   generalize lexG s s.size 0 []=R at hq hlen
   obtain ⟨_|j,ts⟩:=R
   · have hl:=hlen ts (Int.le_refl _) (by omega) rfl
     have hz:(ts.map encT).length<=600:=by rw [List.length_map];have:((([]:List Tk).length:Nat):Int)=0:=rfl;omega
     show FLex s (.tup [.lst false 3 ((ts++[(⟨11,s.size,ByteArray.empty⟩:Tk)]).map encT),.lit .nilIface])
     rw [List.map_append]
     obtain ⟨c,hc,rfl⟩:=hq
     rcases hc with rfl|rfl
     · exact zaBB hB (zatS s _ hs hz)
     · exact zaBB hB (zatQ s _ hs hz)
   · obtain ⟨c,ys,hc,rfl⟩:=hq
     rcases hc with rfl|rfl
     · exact zaBB hB (zatO s _ _ hs)
     · exact zaBB hB (zatM s _ _ hs)
end
end Go.Proofs.YtpofhijgccocpaaGreatDoor
end
section
namespace Go.Proofs
open Go.Shelf
def Tryz.laysM171_ren:Go.Shelf.Ren:=⟨fun|171=>111|243=>128|246=>140|283=>149|284=>150|285=>151|286=>152|129=>159|317=>158|318=>160|319=>161|320=>162|337=>166|338=>167|n=>n,fun|3=>3|9=>9|2=>2|4=>4|171=>189|0=>0|53=>190|37=>130|5=>5|173=>193|212=>197|51=>198|20=>20|213=>199|46=>200|232=>158|233=>206|n=>n,fun|17=>2|18=>3|19=>4|n=>n⟩
theorem Tryz.laysM171:Go.Proofs.LaysM.n171 Tryz.prog Tryz.laysM171_ren:={
 mixed:=by kernel_rfl
 f129:=Tryz.func159.trans (congrArg some (by kernel_rfl))
 f171:=Tryz.func111.trans (congrArg some (by kernel_rfl))
 f243:=Tryz.func128.trans (congrArg some (by kernel_rfl))
 f246:=Tryz.func140.trans (congrArg some (by kernel_rfl))
 f283:=Tryz.func149.trans (congrArg some (by kernel_rfl))
 f284:=Tryz.func150.trans (congrArg some (by kernel_rfl))
 f285:=Tryz.func151.trans (congrArg some (by kernel_rfl))
 f286:=Tryz.func152.trans (congrArg some (by kernel_rfl))
 f317:=Tryz.func158.trans (congrArg some (by kernel_rfl))
 f318:=Tryz.func160.trans (congrArg some (by kernel_rfl))
 f319:=Tryz.func161.trans (congrArg some (by kernel_rfl))
 f320:=Tryz.func162.trans (congrArg some (by kernel_rfl))
 f337:=Tryz.func166.trans (congrArg some (by kernel_rfl))
 f338:=Tryz.func167.trans (congrArg some (by kernel_rfl))
 t0:=Tryz.underlying0
 a0:=Tryz.isAgg0
 z0:=Tryz.sizeOf0
 v0:=Tryz.zeroValue0
 t2:=Tryz.underlying2
 a2:=Tryz.isAgg2
 z2:=Tryz.sizeOf2
 v2:=Tryz.zeroValue2
 t3:=Tryz.underlying3
 a3:=Tryz.isAgg3
 z3:=Tryz.sizeOf3
 v3:=Tryz.zeroValue3
 t4:=Tryz.underlying4
 a4:=Tryz.isAgg4
 z4:=Tryz.sizeOf4
 v4:=Tryz.zeroValue4
 t5:=Tryz.underlying5
 a5:=Tryz.isAgg5
 z5:=Tryz.sizeOf5
 v5:=Tryz.zeroValue5
 t9:=Tryz.underlying9
 a9:=Tryz.isAgg9
 z9:=Tryz.sizeOf9
 v9:=Tryz.zeroValue9
 t20:=Tryz.underlying20
 a20:=Tryz.isAgg20
 z20:=Tryz.sizeOf20
 v20:=Tryz.zeroValue20
 t37:=Tryz.underlying130
 a37:=Tryz.isAgg130
 z37:=Tryz.sizeOf130
 v37:=Tryz.zeroValue130
 t46:=Tryz.underlying200
 a46:=Tryz.isAgg200
 z46:=Tryz.sizeOf200
 v46:=Tryz.zeroValue200
 t51:=Tryz.underlying198
 a51:=Tryz.isAgg198
 z51:=Tryz.sizeOf198
 v51:=Tryz.zeroValue198
 t53:=Tryz.underlying190
 a53:=Tryz.isAgg190
 z53:=Tryz.sizeOf190
 v53:=Tryz.zeroValue190
 t171:=Tryz.underlying189
 a171:=Tryz.isAgg189
 z171:=Tryz.sizeOf189
 v171:=Tryz.zeroValue189
 t173:=Tryz.underlying193
 a173:=Tryz.isAgg193
 z173:=Tryz.sizeOf193
 v173:=Tryz.zeroValue193
 t212:=Tryz.underlying197
 a212:=Tryz.isAgg197
 z212:=Tryz.sizeOf197
 v212:=Tryz.zeroValue197
 t213:=Tryz.underlying199
 a213:=Tryz.isAgg199
 z213:=Tryz.sizeOf199
 t232:=Tryz.underlying158
 a232:=Tryz.isAgg158
 z232:=Tryz.sizeOf158
 v232:=Tryz.zeroValue158
 t233:=Tryz.underlying206
 a233:=Tryz.isAgg206
 z233:=Tryz.sizeOf206
 v233:=Tryz.zeroValue206
 g17:=by kernel_rfl
 g18:=by kernel_rfl
 g19:=by kernel_rfl
 i0:=by kernel_rfl
 i2:=by kernel_rfl
 i3:=by kernel_rfl
 i4:=by kernel_rfl
 i5:=by kernel_rfl
 i9:=by kernel_rfl
 i20:=by kernel_rfl
 i37:=by kernel_rfl
 i46:=by kernel_rfl
 i51:=by kernel_rfl
 i53:=by kernel_rfl
 i171:=by kernel_rfl
 i173:=by kernel_rfl
 i212:=by kernel_rfl
 i232:=by kernel_rfl
 i233:=by kernel_rfl
 m17:=by kernel_rfl
 m18:=by kernel_rfl
 m19:=by kernel_rfl }
open Go.RowKit Go.Sort Go.Lib in
theorem Tryz.strconv_Itoa (n:Int)(h0 : -9223372036854775808<=n)(h1:n<=9223372036854775807)(w:World)(htab:Lib.TabIs Tryz.prog w "internal/strconv.uint64pow10" .u64 Lib.pow10Tab) :
  Calls Tryz.prog 111 #[.int .i64 n] w fun e w'=>e = .returned (.string ⟨(Lib.itoa n).toArray⟩)/\∃ k os,w'=grow (w.drewN k) os:=Any.strconv_Itoa Tryz.laysM171 n h0 h1 w htab
def Tryz.laysC172_ren:Go.Shelf.Ren:=⟨fun|172=>168|244=>169|245=>170|247=>171|279=>172|280=>173|281=>174|282=>175|287=>176|316=>177|171=>111|205=>178|321=>179|322=>180|243=>128|246=>140|283=>149|284=>150|285=>151|286=>152|129=>159|317=>158|318=>160|319=>161|320=>162|337=>166|338=>167|n=>n,fun|9=>9|3=>3|75=>47|76=>204|4=>4|5=>5|167=>208|37=>130|0=>0|85=>209|2=>2|168=>211|53=>190|175=>214|46=>200|210=>217|127=>220|145=>223|143=>221|21=>21|171=>189|173=>193|212=>197|51=>198|20=>20|213=>199|232=>158|233=>206|80=>95|n=>n,fun|15=>5|16=>6|17=>2|18=>3|19=>4|n=>n⟩
theorem Tryz.laysC172:Go.Proofs.LaysC.n172 Tryz.prog Tryz.laysC172_ren:={
 mixed:=by kernel_rfl
 f129:=Tryz.func159.trans (congrArg some (by kernel_rfl))
 f171:=Tryz.func111.trans (congrArg some (by kernel_rfl))
 f172:=Tryz.func168.trans (congrArg some (by kernel_rfl))
 f205:=Tryz.func178.trans (congrArg some (by kernel_rfl))
 f243:=Tryz.func128.trans (congrArg some (by kernel_rfl))
 f244:=Tryz.func169.trans (congrArg some (by kernel_rfl))
 f245:=Tryz.func170.trans (congrArg some (by kernel_rfl))
 f246:=Tryz.func140.trans (congrArg some (by kernel_rfl))
 f247:=Tryz.func171.trans (congrArg some (by kernel_rfl))
 f279:=Tryz.func172.trans (congrArg some (by kernel_rfl))
 f280:=Tryz.func173.trans (congrArg some (by kernel_rfl))
 f281:=Tryz.func174.trans (congrArg some (by kernel_rfl))
 f282:=Tryz.func175.trans (congrArg some (by kernel_rfl))
 f283:=Tryz.func149.trans (congrArg some (by kernel_rfl))
 f284:=Tryz.func150.trans (congrArg some (by kernel_rfl))
 f285:=Tryz.func151.trans (congrArg some (by kernel_rfl))
 f286:=Tryz.func152.trans (congrArg some (by kernel_rfl))
 f287:=Tryz.func176.trans (congrArg some (by kernel_rfl))
 f316:=Tryz.func177.trans (congrArg some (by kernel_rfl))
 f317:=Tryz.func158.trans (congrArg some (by kernel_rfl))
 f318:=Tryz.func160.trans (congrArg some (by kernel_rfl))
 f319:=Tryz.func161.trans (congrArg some (by kernel_rfl))
 f320:=Tryz.func162.trans (congrArg some (by kernel_rfl))
 f321:=Tryz.func179.trans (congrArg some (by kernel_rfl))
 f322:=Tryz.func180.trans (congrArg some (by kernel_rfl))
 f337:=Tryz.func166.trans (congrArg some (by kernel_rfl))
 f338:=Tryz.func167.trans (congrArg some (by kernel_rfl))
 t0:=Tryz.underlying0
 a0:=Tryz.isAgg0
 z0:=Tryz.sizeOf0
 v0:=Tryz.zeroValue0
 t2:=Tryz.underlying2
 a2:=Tryz.isAgg2
 z2:=Tryz.sizeOf2
 v2:=Tryz.zeroValue2
 t3:=Tryz.underlying3
 a3:=Tryz.isAgg3
 z3:=Tryz.sizeOf3
 v3:=Tryz.zeroValue3
 t4:=Tryz.underlying4
 a4:=Tryz.isAgg4
 z4:=Tryz.sizeOf4
 v4:=Tryz.zeroValue4
 t5:=Tryz.underlying5
 a5:=Tryz.isAgg5
 z5:=Tryz.sizeOf5
 v5:=Tryz.zeroValue5
 t9:=Tryz.underlying9
 a9:=Tryz.isAgg9
 z9:=Tryz.sizeOf9
 v9:=Tryz.zeroValue9
 t20:=Tryz.underlying20
 a20:=Tryz.isAgg20
 z20:=Tryz.sizeOf20
 v20:=Tryz.zeroValue20
 t21:=Tryz.underlying21
 a21:=Tryz.isAgg21
 z21:=Tryz.sizeOf21
 v21:=Tryz.zeroValue21
 t37:=Tryz.underlying130
 a37:=Tryz.isAgg130
 z37:=Tryz.sizeOf130
 v37:=Tryz.zeroValue130
 t46:=Tryz.underlying200
 a46:=Tryz.isAgg200
 z46:=Tryz.sizeOf200
 v46:=Tryz.zeroValue200
 t51:=Tryz.underlying198
 a51:=Tryz.isAgg198
 z51:=Tryz.sizeOf198
 v51:=Tryz.zeroValue198
 t53:=Tryz.underlying190
 a53:=Tryz.isAgg190
 z53:=Tryz.sizeOf190
 v53:=Tryz.zeroValue190
 t75:=Tryz.underlying47
 a75:=Tryz.isAgg47
 z75:=Tryz.sizeOf47
 v75:=Tryz.zeroValue47
 t76:=Tryz.underlying204
 a76:=Tryz.isAgg204
 z76:=Tryz.sizeOf204
 v76:=Tryz.zeroValue204
 t85:=Tryz.underlying209
 a85:=Tryz.isAgg209
 z85:=Tryz.sizeOf209
 v85:=Tryz.zeroValue209
 t127:=Tryz.underlying220
 a127:=Tryz.isAgg220
 z127:=Tryz.sizeOf220
 v127:=Tryz.zeroValue220
 t143:=Tryz.underlying221
 a143:=Tryz.isAgg221
 z143:=Tryz.sizeOf221
 v143:=Tryz.zeroValue221
 t145:=Tryz.underlying223
 a145:=Tryz.isAgg223
 z145:=Tryz.sizeOf223
 v145:=Tryz.zeroValue223
 t167:=Tryz.underlying208
 a167:=Tryz.isAgg208
 z167:=Tryz.sizeOf208
 v167:=Tryz.zeroValue208
 t168:=Tryz.underlying211
 a168:=Tryz.isAgg211
 z168:=Tryz.sizeOf211
 v168:=Tryz.zeroValue211
 t171:=Tryz.underlying189
 a171:=Tryz.isAgg189
 z171:=Tryz.sizeOf189
 v171:=Tryz.zeroValue189
 t173:=Tryz.underlying193
 a173:=Tryz.isAgg193
 z173:=Tryz.sizeOf193
 v173:=Tryz.zeroValue193
 t175:=Tryz.underlying214
 a175:=Tryz.isAgg214
 z175:=Tryz.sizeOf214
 v175:=Tryz.zeroValue214
 t210:=Tryz.underlying217
 a210:=Tryz.isAgg217
 z210:=Tryz.sizeOf217
 v210:=Tryz.zeroValue217
 t212:=Tryz.underlying197
 a212:=Tryz.isAgg197
 z212:=Tryz.sizeOf197
 v212:=Tryz.zeroValue197
 t213:=Tryz.underlying199
 a213:=Tryz.isAgg199
 z213:=Tryz.sizeOf199
 t232:=Tryz.underlying158
 a232:=Tryz.isAgg158
 z232:=Tryz.sizeOf158
 v232:=Tryz.zeroValue158
 t233:=Tryz.underlying206
 a233:=Tryz.isAgg206
 z233:=Tryz.sizeOf206
 v233:=Tryz.zeroValue206
 g15:=by kernel_rfl
 g16:=by kernel_rfl
 g17:=by kernel_rfl
 g18:=by kernel_rfl
 g19:=by kernel_rfl
 t80:=Tryz.underlying95
 a80:=Tryz.isAgg95
 z80:=Tryz.sizeOf95
 v80:=Tryz.zeroValue95
 i0:=by kernel_rfl
 i2:=by kernel_rfl
 i3:=by kernel_rfl
 i4:=by kernel_rfl
 i5:=by kernel_rfl
 i9:=by kernel_rfl
 i20:=by kernel_rfl
 i21:=by kernel_rfl
 i37:=by kernel_rfl
 i46:=by kernel_rfl
 i51:=by kernel_rfl
 i53:=by kernel_rfl
 i75:=by kernel_rfl
 i76:=by kernel_rfl
 i80:=by kernel_rfl
 i85:=by kernel_rfl
 i127:=by kernel_rfl
 i143:=by kernel_rfl
 i145:=by kernel_rfl
 i167:=by kernel_rfl
 i168:=by kernel_rfl
 i171:=by kernel_rfl
 i173:=by kernel_rfl
 i175:=by kernel_rfl
 i210:=by kernel_rfl
 i212:=by kernel_rfl
 i232:=by kernel_rfl
 i233:=by kernel_rfl
 m15:=by kernel_rfl
 m16:=by kernel_rfl
 m17:=by kernel_rfl
 m18:=by kernel_rfl
 m19:=by kernel_rfl
 c0:=by kernel_rfl
 c2:=by kernel_rfl
 c3:=by kernel_rfl
 c4:=by kernel_rfl
 c5:=by kernel_rfl
 c9:=by kernel_rfl
 c20:=by kernel_rfl
 c21:=by kernel_rfl
 c37:=by kernel_rfl
 c46:=by kernel_rfl
 c51:=by kernel_rfl
 c53:=by kernel_rfl
 c75:=by kernel_rfl
 c76:=by kernel_rfl
 c80:=by kernel_rfl
 c85:=by kernel_rfl
 c127:=by kernel_rfl
 c143:=by kernel_rfl
 c145:=by kernel_rfl
 c167:=by kernel_rfl
 c168:=by kernel_rfl
 c171:=by kernel_rfl
 c173:=by kernel_rfl
 c175:=by kernel_rfl
 c210:=by kernel_rfl
 c212:=by kernel_rfl
 c213:=by kernel_rfl
 c232:=by kernel_rfl
 c233:=by kernel_rfl }
open Go.RowKit in
theorem Tryz.strconv_Atoi_ok (s:ByteArray)(hmax:s.size<=9223372036854775806)(v:Int)(h:Lib.atoiAll s.data.toList = .ok v)(w:World) :
  Calls Tryz.prog 168 #[.string s] w fun e w'=>e = .returned (.tuple #[.int .i64 v,.nilIface])/\(w'=w∨∃ t,w'=Lib.bytesWorld w 5 t):=Any.strconv_Atoi_ok Tryz.laysC172 s hmax v h w
open Go.RowKit in
theorem Tryz.strconv_Atoi_syntax (s:ByteArray)(hlim:s.size<=281474976710656)(h:Lib.atoiAll s.data.toList=Lib.atoiAll [])(ev:Value)(w:World)(hv:w.cell? ⟨5,0,none⟩=some ev)(hev:ev = .nilIface∨∃ te pe,ev = .iface te pe) :
  Calls Tryz.prog 168 #[.string s] w fun e w'=>∃ N,e = .returned (.tuple #[.int .i64 (0),.iface 211 (.pointer (some ⟨N,0,none⟩))])/\w.heap.size<=N/\w'.heap[N]?=some (.cells #[.string ⟨#[65,116,111,105]⟩,.string s,ev] 217 (0,0))/\Below w.heap.size w w':=Any.strconv_Atoi_syntax Tryz.laysC172 s hlim (h.trans rfl) ev w hv hev
open Go.RowKit in
theorem Tryz.strconv_Atoi_range (s:ByteArray)(hlim:s.size<=281474976710656)(h:Lib.atoiAll s.data.toList = .range)(ev:Value)(w:World)(hv:w.cell? ⟨6,0,none⟩=some ev)(hev:ev = .nilIface∨∃ te pe,ev = .iface te pe) :
  Calls Tryz.prog 168 #[.string s] w fun e w'=>∃ N,e = .returned (.tuple #[.int .i64 (Lib.atoiSat s.data.toList),.iface 211 (.pointer (some ⟨N,0,none⟩))])/\w.heap.size<=N/\w'.heap[N]?=some (.cells #[.string ⟨#[65,116,111,105]⟩,.string s,ev] 217 (0,0))/\Below w.heap.size w w':=Any.strconv_Atoi_range Tryz.laysC172 s hlim h ev w hv hev
end Go.Proofs
end
section
namespace Go.Proofs.YtpofhijgccocpaaGreatDoor
open Go.AS Go.TP
noncomputable section
def zaA1 (s:ByteArray):AV := .lst false 1 (s.data.toList.map zakI)
def zady (k a:Int)(x:ByteArray)(i:Int):List AV:=[.ref (.agg [i0 k,i0 a,s0 x]),zaA1 x,i0 x.size,i0 i]
def zafu (k a:Int)(x:ByteArray):Ex × Back:=(.exit 0,⟨.tup [.ref (.agg [i0 k,i0 a,s0 x])],.nil,[]⟩)
def zair:Ex × Back:=(.ret,⟨.tup [i0 0,b0 false],.nil,[]⟩)
def zaqv:Ex->List Nat
 | .ret=>[2,3]
 | _=>[1]
abbrev zasE (P:Prop)(k a:Int)(x:ByteArray)(i:Int)(r:Ex × Back):Lp:=Lp1 [1,10,11,12] [] zaqv P (zady k a x i) .nil r
noncomputable def XN:WX:=(X1.ask [zaaw]).askAt zaaw [14,15]
def rNum (os:Orc)(P:Prop)(k a:Int)(x:ByteArray)(i:Int)(r r':Ex × Back):Prop :=
 runL XN 8 zaaw (fn zaaw).ntmps (zaaX (code zaaw) 0) (zasE P k a x (i+1) r') (zasE P k a x (i+1) r') os 0 [] (zady k a x i) .nil r
def zaD2 (os:Orc)(P:Prop)(k a:Int)(x:ByteArray)(i:Int):Prop:=rNum os P k a x i (zafu k a x) (zafu k a x)
def zaD1 (os:Orc)(P:Prop)(k a:Int)(x:ByteArray)(i:Int):Prop:=rNum os P k a x i zair zair
def zaD4 (os:Orc)(P:Prop)(k a:Int)(x:ByteArray)(i:Int):Prop:=rNum os P k a x i (zafu k a x) (zafu k a x)
def zaD3 (os:Orc)(P:Prop)(k a:Int)(x:ByteArray)(i:Int):Prop:=rNum os P k a x i zair zair
def zanS (s:ByteArray)(n:Int)(e:AV):Sp := .pure Unit (fun _=>True) (fun _=>[s0 s]) (fun _ => .tup [i0 n,e])
def zahL (os:Orc)(k a:Int)(x:ByteArray)(q:Ex × Back)(n:Int)(e:AV)(m:Int)(b:Bool):Prop :=
 runF (((X1.add zah1 (Sp.con [zanS x n e])).addLp zaaw 0 (zasE True k a x 0 q)).ask [zaaw]) 10 zaaw (fn zaaw) (code zaaw) os 0 [] [.agg [i0 k,i0 a,s0 x]] .nil ⟨.tup [i0 m,b0 b],.nil,[]⟩
def zaF6 (os:Orc)(k a:Int)(x:ByteArray)(n:Int)(e:AV):Prop:=zahL os k a x zair n e 0 false
def zay5 (os:Orc)(a:Int)(x:ByteArray)(n:Int):Prop:=zahL os 1 a x (zafu 1 a x) n (.lit .nilIface) n true
def zaqO (os:Orc)(k a:Int)(x:ByteArray)(n:Int):Prop:=zahL os k a x (zafu k a x) n (.lit .nilIface) n false
def zaqP (os:Orc)(k a:Int)(x:ByteArray)(n:Int)(t:Nat)(u:AV):Prop:=zahL os k a x (zafu k a x) n (.iface t (.ref u)) n false
def zadv (x:ByteArray)(i:Int):List AV:=[s0 x,zaA1 x,i0 x.size,i0 i]
def zahm (x:ByteArray):Ex × Back:=(.exit 0,⟨.tup [s0 x],.nil,[]⟩)
def zaim:Ex × Back:=(.ret,⟨.tup [b0 false],.nil,[]⟩)
def zap7:Ex->List Nat
 | .ret=>[2]
 | _=>[0]
abbrev zasD (P:Prop)(x:ByteArray)(i:Int)(r:Ex × Back):Lp:=Lp1 [0,6,7,8] [] zap7 P (zadv x i) .nil r
noncomputable def XP:WX:=(X1.ask [zaaf]).askAt zaaf [10,11]
def rPre (os:Orc)(P:Prop)(x:ByteArray)(i:Int)(r r':Ex × Back):Prop :=
 runL XP 8 zaaf (fn zaaf).ntmps (zaaX (code zaaf) 0) (zasD P x (i+1) r') (zasD P x (i+1) r') os 0 [] (zadv x i) .nil r
def zaDX (os:Orc)(P:Prop)(x:ByteArray)(i:Int):Prop:=rPre os P x i (zahm x) (zahm x)
def zaDW (os:Orc)(P:Prop)(x:ByteArray)(i:Int):Prop:=rPre os P x i zaim zaim
def zaDZ (os:Orc)(P:Prop)(x:ByteArray)(i:Int):Prop:=rPre os P x i (zahm x) (zahm x)
def zaDY (os:Orc)(P:Prop)(x:ByteArray)(i:Int):Prop:=rPre os P x i zaim zaim
def gPre (os:Orc)(x:ByteArray)(q:Ex × Back)(b:Bool):Prop :=
 runF ((X1.addLp zaaf 0 (zasD True x 0 q)).ask [zaaf]) 10 zaaf (fn zaaf) (code zaaf) os 0 [] [s0 x] .nil ⟨b0 b,.nil,[]⟩
def zaFY (os:Orc)(x:ByteArray):Prop:=gPre os x zaim false
def zaFZ (os:Orc)(x:ByteArray)(b:Bool):Prop:=gPre os x (zahm x) b
end
end Go.Proofs.YtpofhijgccocpaaGreatDoor
end
section
namespace Go.Proofs.YtpofhijgccocpaaGreatDoor
open Go Go.AS Go.TP
noncomputable abbrev zabY (x:ByteArray):=(List.map zakI (Array.toList (ByteArray.data x)))
theorem zarY (P:Prop)(k a:Int)(x:ByteArray)(i:Int):zaD2 (Orc.f Orc.z) P k a x i=(let z1:=(AV.tup [AV.ref (AV.agg [i0 k,i0 a,s0 x])]);decide (i<(↑(ByteArray.size x):Int))=false/\Ex.exit 0=Ex.exit 0/\Wk z1 z1/\S0):=by kernel_rfl
def zawJ:Orc:=Orc.t (Orc.s (Orc.t (Orc.t Orc.z)) (Orc.f (Orc.t Orc.z)))
theorem zarW (P:Prop)(k a:Int)(x:ByteArray)(i:Int):zaD1 zawJ P k a x i=(decide (i<(↑(ByteArray.size x):Int))=true/\(decide ((0:Int)<=i/\i<(↑(List.length (zabY x)):Int))&&(true&&(zaaF (Cx.B (cxV XN 8 zaaw)) shN 5 (List.getD (zabY x) (Int.toNat i) uu)&&(false||true))))=true/\(decide (intA (List.getD (zabY x) (Int.toNat i) uu)<48)=true->true=true/\true=true/\Ex.ret=Ex.ret/\Wk (AV.tup [i0 0,b0 false]) (AV.tup [i0 0,b0 false])/\S0)/\(decide (intA (List.getD (zabY x) (Int.toNat i) uu)<48)=false->false=false/\decide (intA (List.getD (zabY x) (Int.toNat i) uu)>57)=true/\Ex.ret=Ex.ret/\Wk (AV.tup [i0 0,b0 false]) (AV.tup [i0 0,b0 false])/\S0)):=by kernel_rfl
def zawL:Orc:=Orc.t (Orc.f (Orc.f (Orc.f Orc.z)))
theorem zar1 (P:Prop)(k a:Int)(x:ByteArray)(i:Int):zaD4 zawL P k a x i=(decide (i<(↑(ByteArray.size x):Int))=true/\(decide ((0:Int)<=i/\i<(↑(List.length (zabY x)):Int))&&(true&&(zaaF (Cx.B (cxV XN 8 zaaw)) shN 5 (List.getD (zabY x) (Int.toNat i) uu)&&(false||true))))=true/\decide (intA (List.getD (zabY x) (Int.toNat i) uu)<48)=false/\false=false/\decide (intA (List.getD (zabY x) (Int.toNat i) uu)>57)=false/\inR IntKind.i64 (i+1)=true/\∃ (_:Unit),(P/\Wks [AV.ref (AV.agg [i0 k,i0 a,s0 x]),L1 (zabY x),i0 (↑(ByteArray.size x):Int),i0 (i+1)] [AV.ref (AV.agg [i0 k,i0 a,s0 x]),L1 (zabY x),i0 (↑(ByteArray.size x):Int),i0 (i+1)]/\hpL []=hpL [])/\Ex.exit 0=Ex.exit 0/\Wk (AV.tup [AV.ref (AV.agg [i0 k,i0 a,s0 x])]) (AV.tup [AV.ref (AV.agg [i0 k,i0 a,s0 x])])/\S0):=by kernel_rfl
def zawK:Orc:=Orc.t (Orc.f (Orc.f (Orc.f Orc.z)))
theorem zarZ (P:Prop)(k a:Int)(x:ByteArray)(i:Int):zaD3 zawK P k a x i=(decide (i<(↑(ByteArray.size x):Int))=true/\(decide ((0:Int)<=i/\i<(↑(List.length (zabY x)):Int))&&(true&&(zaaF (Cx.B (cxV XN 8 zaaw)) shN 5 (List.getD (zabY x) (Int.toNat i) uu)&&(false||true))))=true/\decide (intA (List.getD (zabY x) (Int.toNat i) uu)<48)=false/\false=false/\decide (intA (List.getD (zabY x) (Int.toNat i) uu)>57)=false/\inR IntKind.i64 (i+1)=true/\∃ (_:Unit),(P/\Wks [AV.ref (AV.agg [i0 k,i0 a,s0 x]),L1 (zabY x),i0 (↑(ByteArray.size x):Int),i0 (i+1)] [AV.ref (AV.agg [i0 k,i0 a,s0 x]),L1 (zabY x),i0 (↑(ByteArray.size x):Int),i0 (i+1)]/\hpL []=hpL [])/\Ex.ret=Ex.ret/\Wk (AV.tup [i0 0,b0 false]) (AV.tup [i0 0,b0 false])/\S0):=by kernel_rfl
theorem zatE (k a:Int)(x:ByteArray)(n:Int)(e:AV):zaF6 (Orc.z) k a x n e=(true=true/\∃ (_:Unit),(True/\Wks [AV.ref (AV.agg [i0 k,i0 a,s0 x]),L1 (zabY x),i0 (↑(List.length (zabY x)):Int),i0 0] [AV.ref (AV.agg [i0 k,i0 a,s0 x]),L1 (zabY x),i0 (↑(ByteArray.size x):Int),i0 0]/\hpL []=hpL [])/\Wk (AV.tup [i0 0,b0 false]) (AV.tup [i0 0,b0 false])/\S0):=by kernel_rfl
def zaqk:Orc:=HT (Orc.t (Orc.t Orc.z))
theorem zaoL (a:Int)(x:ByteArray)(n:Int):zay5 zaqk a x n=(true=true/\∃ (_:Unit),(True/\Wks [AV.ref (AV.agg [i0 1,i0 a,s0 x]),L1 (zabY x),i0 (↑(List.length (zabY x)):Int),i0 0] [AV.ref (AV.agg [i0 1,i0 a,s0 x]),L1 (zabY x),i0 (↑(ByteArray.size x):Int),i0 0]/\hpL []=hpL [])/\∃ (_:Unit),(True/\Wks [s0 x] [s0 x]/\hpL []=hpL [])/\true=true/\true=true/\true=true/\true=true/\decide ((↑(ByteArray.size x):Int)<=6)=true/\true=true/\Wk (AV.tup [i0 n,b0 true]) (AV.tup [i0 n,b0 true])/\S0):=by kernel_rfl
def zalV:Orc:=Orc.s (Orc.t (Orc.t (Orc.t (Orc.s (Orc.t Orc.z) (Orc.f Orc.z))))) (HF (Orc.f Orc.z))
theorem zamr (k a:Int)(x:ByteArray)(n:Int):zaqO zalV k a x n=(true=true/\∃ (_:Unit),(True/\Wks [AV.ref (AV.agg [i0 k,i0 a,s0 x]),L1 (zabY x),i0 (↑(List.length (zabY x)):Int),i0 0] [AV.ref (AV.agg [i0 k,i0 a,s0 x]),L1 (zabY x),i0 (↑(ByteArray.size x):Int),i0 0]/\hpL []=hpL [])/\∃ (_:Unit),(True/\Wks [s0 x] [s0 x]/\hpL []=hpL [])/\((k==1)=true->true=true/\true=true/\true=true/\(decide ((↑(ByteArray.size x):Int)<=6)=true->true=true/\Wk (AV.tup [i0 n,b0 true]) (AV.tup [i0 n,b0 false])/\S0)/\(decide ((↑(ByteArray.size x):Int)<=6)=false->false=false/\Wk (AV.tup [i0 n,b0 false]) (AV.tup [i0 n,b0 false])/\S0))/\((k==1)=false->false=false/\false=false/\false=false/\false=false/\false=false/\Wk (AV.tup [i0 n,b0 false]) (AV.tup [i0 n,b0 false])/\S0)):=by kernel_rfl
def zalW:Orc:=Orc.s (Orc.t (Orc.t (Orc.t (Orc.s (Orc.t Orc.z) (Orc.f Orc.z))))) (HF (Orc.f Orc.z))
theorem zamt (k a:Int)(x:ByteArray)(n:Int)(t:Nat)(u:AV):zaqP zalW k a x n t u=(true=true/\∃ (_:Unit),(True/\Wks [AV.ref (AV.agg [i0 k,i0 a,s0 x]),L1 (zabY x),i0 (↑(List.length (zabY x)):Int),i0 0] [AV.ref (AV.agg [i0 k,i0 a,s0 x]),L1 (zabY x),i0 (↑(ByteArray.size x):Int),i0 0]/\hpL []=hpL [])/\∃ (_:Unit),(True/\Wks [s0 x] [s0 x]/\hpL []=hpL [])/\((k==1)=true->true=true/\true=true/\true=true/\(decide ((↑(ByteArray.size x):Int)<=6)=true->true=true/\Wk (AV.tup [i0 n,b0 false]) (AV.tup [i0 n,b0 false])/\S0)/\(decide ((↑(ByteArray.size x):Int)<=6)=false->false=false/\Wk (AV.tup [i0 n,b0 false]) (AV.tup [i0 n,b0 false])/\S0))/\((k==1)=false->false=false/\false=false/\false=false/\false=false/\false=false/\Wk (AV.tup [i0 n,b0 false]) (AV.tup [i0 n,b0 false])/\S0)):=by kernel_rfl
theorem zarR (P:Prop)(x:ByteArray)(i:Int):zaDX (Orc.f Orc.z) P x i=(decide (i<(↑(ByteArray.size x):Int))=false/\Ex.exit 0=Ex.exit 0/\Wk (AV.tup [s0 x]) (AV.tup [s0 x])/\S0):=by kernel_rfl
theorem zarP (P:Prop)(x:ByteArray)(i:Int):zaDW (Orc.t (Orc.t Orc.z)) P x i=(decide (i<(↑(ByteArray.size x):Int))=true/\(decide ((0:Int)<=i/\i<(↑(List.length (zabY x)):Int))&&(true&&(zaaF (Cx.B (cxV XP 8 zaaf)) shN 5 (List.getD (zabY x) (Int.toNat i) uu)&&(false||true))))=true/\∃ (i1:Nat),(i1<256/\Wks [u0 (intA (List.getD (zabY x) (Int.toNat i) uu))] [u0 (↑i1:Int)]/\hpL []=hpL [])/\decide (zadG i1<0)=true/\Ex.ret=Ex.ret/\Wk (AV.tup [b0 false]) (AV.tup [b0 false])/\S0):=by kernel_rfl
theorem zarU (P:Prop)(x:ByteArray)(i:Int):zaDZ (Orc.t (Orc.f Orc.z)) P x i=(decide (i<(↑(ByteArray.size x):Int))=true/\(decide ((0:Int)<=i/\i<(↑(List.length (zabY x)):Int))&&(true&&(zaaF (Cx.B (cxV XP 8 zaaf)) shN 5 (List.getD (zabY x) (Int.toNat i) uu)&&(false||true))))=true/\∃ (i1:Nat),(i1<256/\Wks [u0 (intA (List.getD (zabY x) (Int.toNat i) uu))] [u0 (↑i1:Int)]/\hpL []=hpL [])/\decide (zadG i1<0)=false/\inR IntKind.i64 (i+1)=true/\∃ (_:Unit),(P/\Wks [s0 x,L1 (zabY x),i0 (↑(ByteArray.size x):Int),i0 (i+1)] [s0 x,L1 (zabY x),i0 (↑(ByteArray.size x):Int),i0 (i+1)]/\hpL []=hpL [])/\Ex.exit 0=Ex.exit 0/\Wk (AV.tup [s0 x]) (AV.tup [s0 x])/\S0):=by kernel_rfl
theorem zarS (P:Prop)(x:ByteArray)(i:Int):zaDY (Orc.t (Orc.f Orc.z)) P x i=(decide (i<(↑(ByteArray.size x):Int))=true/\(decide ((0:Int)<=i/\i<(↑(List.length (zabY x)):Int))&&(true&&(zaaF (Cx.B (cxV XP 8 zaaf)) shN 5 (List.getD (zabY x) (Int.toNat i) uu)&&(false||true))))=true/\∃ (i1:Nat),(i1<256/\Wks [u0 (intA (List.getD (zabY x) (Int.toNat i) uu))] [u0 (↑i1:Int)]/\hpL []=hpL [])/\decide (zadG i1<0)=false/\inR IntKind.i64 (i+1)=true/\∃ (_:Unit),(P/\Wks [s0 x,L1 (zabY x),i0 (↑(ByteArray.size x):Int),i0 (i+1)] [s0 x,L1 (zabY x),i0 (↑(ByteArray.size x):Int),i0 (i+1)]/\hpL []=hpL [])/\Ex.ret=Ex.ret/\Wk (AV.tup [b0 false]) (AV.tup [b0 false])/\S0):=by kernel_rfl
theorem zato (x:ByteArray):zaFY (Orc.z) x=(true=true/\∃ (_:Unit),(True/\Wks [s0 x,L1 (zabY x),i0 (↑(List.length (zabY x)):Int),i0 0] [s0 x,L1 (zabY x),i0 (↑(ByteArray.size x):Int),i0 0]/\hpL []=hpL [])/\Wk (b0 false) (b0 false)/\S0):=by kernel_rfl
def zaw9:Orc:=Orc.s (Orc.t (Orc.t Orc.z)) (Orc.f (Orc.f Orc.z))
theorem zatq (x:ByteArray)(b:Bool):zaFZ zaw9 x b=(true=true/\∃ (_:Unit),(True/\Wks [AV.lit (Value.string x),L1 (List.map zakI (Array.toList (ByteArray.data x))),AV.lit (Value.int IntKind.i64 (↑(List.length (List.map zakI (Array.toList (ByteArray.data x)))):Int)),AV.lit (Value.int IntKind.i64 0)] [AV.lit (Value.string x),L1 (List.map zakI (Array.toList (ByteArray.data x))),AV.lit (Value.int IntKind.i64 (↑(ByteArray.size x):Int)),AV.lit (Value.int IntKind.i64 0)]/\hpL []=hpL [])/\((!ByteArray.toList x==ByteArray.toList ⟨⟨[]⟩⟩)=true->true=true/\true=true/\Wk (AV.lit (Value.bool (decide ((↑(ByteArray.size x):Int)<=64)))) (AV.lit (Value.bool b))/\S0)/\((!ByteArray.toList x==ByteArray.toList ⟨⟨[]⟩⟩)=false->false=false/\false=false/\Wk (AV.lit (Value.bool false)) (AV.lit (Value.bool b))/\S0)):=by kernel_rfl
end Go.Proofs.YtpofhijgccocpaaGreatDoor
end
section
namespace Go.Proofs.YtpofhijgccocpaaGreatDoor
open Go.AS Go.TP
noncomputable section
variable {i k a:Int} {x:ByteArray} {P:Prop} {os:Orc}
theorem zadY (x:ByteArray)(h0:0<=i)(h:i<x.size)(d:AV):(x.data.toList.map zakI).getD i.toNat d=c0 (zaaa x i.toNat):=by
 have hl:i.toNat<x.data.toList.length:=by rw [Array.length_toList];have:x.data.size=x.size:=rfl;omega
 have hl':i.toNat<x.data.size:=by rw [<-Array.length_toList];exact hl
 rw [List.getD_eq_getElem?_getD,List.getElem?_map,List.getElem?_eq_getElem hl]
 unfold zaaa
 rw [Array.getD_eq_getD_getElem?,Array.getElem?_eq_getElem hl']
 rfl
theorem zabg (x:ByteArray):(x.data.toList.map zakI).length=x.size:=by rw [List.length_map,Array.length_toList];rfl
theorem zaCd (n:Int):zaaF (Cx.B (cxV XN 8 zaaw)) shN 5 (.lit (.int .u8 n))=true:=by kernel_rfl
theorem zaCc (n:Int):zaaF (Cx.B (cxV XP 8 zaaf)) shN 5 (.lit (.int .u8 n))=true:=by kernel_rfl
def zaa5 (p:UInt8->Bool)(x:ByteArray)(i:Int):Bool:=(x.data.toList.drop i.toNat).all p
theorem zabl {p:UInt8->Bool}(h:¬i<x.size):zaa5 p x i=true:=by
 unfold zaa5
 rw [List.drop_of_length_le (by rw [Array.length_toList];have:x.data.size=x.size:=rfl;omega)];rfl
theorem zacw {p:UInt8->Bool}{q:Nat->Bool}(hq:∀ c:UInt8,p c=q c.toNat)(h0:0<=i)(h:i<x.size):zaa5 p x i=(q (zaaa x i.toNat)&&zaa5 p x (i+1)):=by
 unfold zaa5
 have hl:i.toNat<x.data.toList.length:=by rw [Array.length_toList];have:x.data.size=x.size:=rfl;omega
 have hl':i.toNat<x.data.size:=by rw [<-Array.length_toList];exact hl
 have e:(i+1).toNat=i.toNat+1:=by omega
 rw [List.drop_eq_getElem_cons hl,List.all_cons,hq,e]
 congr 2
 unfold zaaa
 rw [Array.getD_eq_getD_getElem?,Array.getElem?_eq_getElem hl'];rfl
def digQ (c:Nat):Bool:=decide (48<=c)&&decide (c<=57)
def hexQ (c:Nat):Bool:=(decide (48<=c)&&decide (c<=57))||(decide (97<=c)&&decide (c<=102))
theorem zajQ (c:UInt8):zacf c=digQ c.toNat:=rfl
theorem zaqK (c:UInt8):zafz c=hexQ c.toNat:=rfl
theorem zach {c:Nat}:zadG c<0↔hexQ c=false:=by grind [zadG,hexQ]
theorem zak5 (x:ByteArray):(!ByteArray.toList x==ByteArray.toList { data:={ toList:=[] } })=decide (0<x.size):=by
 show (!ByteArray.toList x==ByteArray.toList ByteArray.empty)=_
 rw [ByteArray.toList_eq,ByteArray.toList_eq]
 show (!(x.data.toList==[]))=_
 by_cases h:0<x.size
 · rw [decide_eq_true h]
   have:x.data.toList≠[]:=fun e=>by
     have h2:x.data.toList.length=x.size:=by rw [Array.length_toList];rfl
     rw [e] at h2;simp at h2;omega
   rw [beq_eq_false_iff_ne.2 this];rfl
 · rw [decide_eq_false h]
   have h2:x.data.toList.length=x.size:=by rw [Array.length_toList];rfl
   have:x.data.toList=[]:=List.eq_nil_of_length_eq_zero (by omega)
   simp [this]
theorem zaly (h:¬i<x.size):zaDX (Orc.f Orc.z) P x i:=by
 rw [zarR];exact ⟨decide_eq_false h,rfl,.refl _,.rfl⟩
theorem zarQ (h0:0<=i)(h:i<x.size)(hd:hexQ (zaaa x i.toNat)=false):zaDW (Orc.t (Orc.t Orc.z)) P x i:=by
 rw [zarP,zadY x h0 h,zabg]
 refine ⟨decide_eq_true h,?_,_,⟨zaaC x i.toNat,.refl _,rfl⟩,decide_eq_true (zach.2 hd),rfl,.refl _,.rfl⟩
 rw [decide_eq_true ⟨h0,h⟩,zaCc];rfl
theorem zarV (hx:x.size<=1000000)(h0:0<=i)(h:i<x.size)(hd:hexQ (zaaa x i.toNat)=true)(hP:P):zaDZ (Orc.t (Orc.f Orc.z)) P x i:=by
 rw [zarU,zadY x h0 h,zabg]
 refine ⟨decide_eq_true h,?_,_,⟨zaaC x i.toNat,.refl _,rfl⟩,decide_eq_false (fun k=>by rw [zach.1 k] at hd;cases hd),zaag (by omega) (by omega),(),⟨hP,.refl _,rfl⟩,rfl,.refl _,.rfl⟩
 rw [decide_eq_true ⟨h0,h⟩,zaCc];rfl
theorem zarT (hx:x.size<=1000000)(h0:0<=i)(h:i<x.size)(hd:hexQ (zaaa x i.toNat)=true)(hP:P):zaDY (Orc.t (Orc.f Orc.z)) P x i:=by
 rw [zarS,zadY x h0 h,zabg]
 refine ⟨decide_eq_true h,?_,_,⟨zaaC x i.toNat,.refl _,rfl⟩,decide_eq_false (fun k=>by rw [zach.1 k] at hd;cases hd),zaag (by omega) (by omega),(),⟨hP,.refl _,rfl⟩,rfl,.refl _,.rfl⟩
 rw [decide_eq_true ⟨h0,h⟩,zaCc];rfl
abbrev BPre (xs:List AV)(r:Ex × Back):Prop:=zab9 Tryz.prog gl0 (fn zaaf).ntmps (zaaX (code zaaf) 0) [0,6,7,8] zap7 xs .nil fun _ q=>q=r
theorem zaHG:XP.Sound:=(zakJ.ask _).askAt _ _
theorem zaeR {r r':Ex × Back}(ih:P->BPre (zadv x (i+1)) r')(h:rPre os P x i r r'):BPre (zadv x i) r :=
 zad1 (X:=XP) zaHG (f:=zaaf) (fn:=fn zaaf) (code:=code zaaf) (fnOk zaaf (by kernel_rfl)) (show (fn zaaf).body=some (code zaaf) by kernel_rfl) (L:=zasD P x (i+1) r') (L':=zasD P x (i+1) r') (l:=[⟨Unit,fun _=>P,fun _=>zadv x (i+1),fun _ => .nil,fun _=>r'⟩]) rfl (show ([0,6,7,8]:List Nat).Nodup by decide)
  (fun s' hs' q hq=>by obtain rfl:=List.mem_singleton.1 hs';exact ih hq) h
attribute [local irreducible] runL in
theorem preL (x:ByteArray)(hx:x.size<=1000000):∀ (f:Nat) (i:Int),0<=i->x.size-i<=f->BPre (zadv x i) (if zaa5 zafz x i=true then zahm x else zaim):=by
 intro f
 induction f with
 | zero=>intro i h0 h1;rw [if_pos (zabl (by omega))];exact zaeR (P:=False) (r':=zahm x) (fun h=>h.elim) (zaly (by omega))
 | succ f ih =>
  intro i h0 h1
  by_cases hi:i<x.size
  · have ih:=ih (i+1) (by omega) (by omega)
    rw [zacw zaqK h0 hi]
    cases hd:hexQ (zaaa x i.toNat) with
    | false=>rw [Bool.false_and,if_neg (by decide)];exact zaeR (P:=False) (r':=zaim) (fun h=>h.elim) (zarQ h0 hi hd)
    | true =>
      rw [Bool.true_and]
      by_cases ha:zaa5 zafz x (i+1)=true
      · rw [if_pos ha] at ih ⊢;exact zaeR (P:=True) (fun _=>ih) (zarV hx h0 hi hd trivial)
      · rw [if_neg ha] at ih ⊢;exact zaeR (P:=True) (fun _=>ih) (zarT hx h0 hi hd trivial)
  · rw [if_pos (zabl hi)];exact zaeR (P:=False) (r':=zahm x) (fun h=>h.elim) (zaly hi)
theorem zaCk {q:Ex × Back}(h:BPre (zadv x 0) q):(X1.addLp zaaf 0 (zasD True x 0 q)).Sound :=
 zakJ.addLp (fnOk zaaf (by kernel_rfl)) (show (fn zaaf).body=some (code zaaf) by kernel_rfl) (by kernel_rfl)
  (Spl.ok (l:=[⟨Unit,fun _=>True,fun _=>zadv x 0,fun _ => .nil,fun _=>q⟩]) rfl (show ([0,6,7,8]:List Nat).Nodup by decide) fun s' hs' i _=>by obtain rfl:=List.mem_singleton.1 hs';exact h)
attribute [local irreducible] runF in
theorem zaEi {q:Ex × Back}{b:Bool}(h:BPre (zadv x 0) q)(hg:gPre os x q b):F zaaf [s0 x] (b0 b) :=
 zade (X:=(X1.addLp zaaf 0 (zasD True x 0 q)).ask [zaaf]) (d:=10) ((zaCk h).ask _) (f:=zaaf) (fn:=fn zaaf) (code:=code zaaf) (fnOk zaaf (by kernel_rfl)) (show (fn zaaf).body=some (code zaaf) by kernel_rfl) (by kernel_rfl) hg
theorem zatp (x:ByteArray):zaFY Orc.z x:=by
 rw [zato,zabg];exact ⟨rfl,(),⟨trivial,.refl _,rfl⟩,.refl _,.rfl⟩
theorem zatr (x:ByteArray):zaFZ zaw9 x (decide (0<x.size)&&decide (x.size<=64)):=by
 rw [zatq,zabg,zak5]
 refine ⟨rfl,(),⟨trivial,.refl _,rfl⟩,fun h => ?_,fun h => ?_⟩
 · rw [h]
   refine ⟨rfl,rfl,.of_eq ?_,.rfl⟩
   rw [Bool.true_and];congr 3
   exact propext ⟨fun h=>by omega,fun h=>by omega⟩
 · rw [h];exact ⟨rfl,rfl,.refl _,.rfl⟩
attribute [local irreducible] runF runL in
theorem zafY (x:ByteArray)(hx:x.size<=1000000):F zaaf [s0 x] (b0 (zaav x)):=by
 have h:=preL x hx x.size 0 (Int.le_refl _) (by omega)
 have e:zaav x=(zaa5 zafz x 0&&(decide (0<x.size)&&decide (x.size<=64))):=by
  unfold zaav zaa5;rw [show (0:Int).toNat=0 from rfl,List.drop_zero,Bool.and_assoc]
 rw [e]
 cases ha:zaa5 zafz x 0 with
 | true=>rw [ha,if_pos rfl] at h;rw [Bool.true_and];exact zaEi h (zatr x)
 | false=>rw [ha,if_neg (by decide)] at h;rw [Bool.false_and];exact zaEi h (zatp x)
theorem zalz (h:¬i<x.size):zaD2 (Orc.f Orc.z) P k a x i:=by
 rw [zarY];exact ⟨decide_eq_false h,rfl,.refl _,.rfl⟩
theorem zarX (h0:0<=i)(h:i<x.size)(hd:digQ (zaaa x i.toNat)=false):zaD1 zawJ P k a x i:=by
 rw [zarW,zadY x h0 h,zabg]
 refine ⟨decide_eq_true h,?_,fun g=>⟨rfl,rfl,rfl,.refl _,.rfl⟩,fun g=>⟨rfl,decide_eq_true ?_,rfl,.refl _,.rfl⟩⟩
 · rw [decide_eq_true ⟨h0,h⟩,zaCd];rfl
 · have g:¬((zaaa x i.toNat:Int)<48):=of_decide_eq_false g
   show (zaaa x i.toNat:Int)>57
   unfold digQ at hd
   have:¬(48<=zaaa x i.toNat/\zaaa x i.toNat<=57):=fun q=>by rw [decide_eq_true q.1,decide_eq_true q.2] at hd;cases hd
   omega
theorem zaiM {c:Nat}(h:digQ c=true):48<=c/\c<=57:=by grind [digQ]
theorem zar2 (hx:x.size<=1000000)(h0:0<=i)(h:i<x.size)(hd:digQ (zaaa x i.toNat)=true)(hP:P):zaD4 zawL P k a x i:=by
 rw [zar1,zadY x h0 h,zabg]
 have hc:=zaiM hd
 refine ⟨decide_eq_true h,?_,decide_eq_false (show ¬((zaaa x i.toNat:Int)<48) by omega),rfl,decide_eq_false (show ¬((zaaa x i.toNat:Int)>57) by omega),zaag (by omega) (by omega),(),⟨hP,.refl _,rfl⟩,rfl,.refl _,.rfl⟩
 rw [decide_eq_true ⟨h0,h⟩,zaCd];rfl
theorem zar0 (hx:x.size<=1000000)(h0:0<=i)(h:i<x.size)(hd:digQ (zaaa x i.toNat)=true)(hP:P):zaD3 zawK P k a x i:=by
 rw [zarZ,zadY x h0 h,zabg]
 have hc:=zaiM hd
 refine ⟨decide_eq_true h,?_,decide_eq_false (show ¬((zaaa x i.toNat:Int)<48) by omega),rfl,decide_eq_false (show ¬((zaaa x i.toNat:Int)>57) by omega),zaag (by omega) (by omega),(),⟨hP,.refl _,rfl⟩,rfl,.refl _,.rfl⟩
 rw [decide_eq_true ⟨h0,h⟩,zaCd];rfl
abbrev BNum (xs:List AV)(r:Ex × Back):Prop:=zab9 Tryz.prog gl0 (fn zaaw).ntmps (zaaX (code zaaw) 0) [1,10,11,12] zaqv xs .nil fun _ q=>q=r
theorem zaHH:XN.Sound:=(zakJ.ask _).askAt _ _
theorem zae1 {r r':Ex × Back}(ih:P->BNum (zady k a x (i+1)) r')(h:rNum os P k a x i r r'):BNum (zady k a x i) r :=
 zad1 (X:=XN) zaHH (f:=zaaw) (fn:=fn zaaw) (code:=code zaaw) (fnOk zaaw (by kernel_rfl)) (show (fn zaaw).body=some (code zaaw) by kernel_rfl) (L:=zasE P k a x (i+1) r') (L':=zasE P k a x (i+1) r') (l:=[⟨Unit,fun _=>P,fun _=>zady k a x (i+1),fun _ => .nil,fun _=>r'⟩]) rfl (show ([1,10,11,12]:List Nat).Nodup by decide)
  (fun s' hs' q hq=>by obtain rfl:=List.mem_singleton.1 hs';exact ih hq) h
attribute [local irreducible] runL in
theorem numL (k a:Int)(x:ByteArray)(hx:x.size<=1000000):∀ (f:Nat) (i:Int),0<=i->x.size-i<=f->BNum (zady k a x i) (if zaa5 zacf x i=true then zafu k a x else zair):=by
 intro f
 induction f with
 | zero=>intro i h0 h1;rw [if_pos (zabl (by omega))];exact zae1 (P:=False) (r':=zafu k a x) (fun h=>h.elim) (zalz (by omega))
 | succ f ih =>
  intro i h0 h1
  by_cases hi:i<x.size
  · have ih:=ih (i+1) (by omega) (by omega)
    rw [zacw zajQ h0 hi]
    cases hd:digQ (zaaa x i.toNat) with
    | false=>rw [Bool.false_and,if_neg (by decide)];exact zae1 (P:=False) (r':=zair) (fun h=>h.elim) (zarX h0 hi hd)
    | true =>
      rw [Bool.true_and]
      by_cases ha:zaa5 zacf x (i+1)=true
      · rw [if_pos ha] at ih ⊢;exact zae1 (P:=True) (fun _=>ih) (zar2 hx h0 hi hd trivial)
      · rw [if_neg ha] at ih ⊢;exact zae1 (P:=True) (fun _=>ih) (zar0 hx h0 hi hd trivial)
  · rw [if_pos (zabl hi)];exact zae1 (P:=False) (r':=zafu k a x) (fun h=>h.elim) (zalz hi)
end
end Go.Proofs.YtpofhijgccocpaaGreatDoor
end
section
namespace Go.Proofs.YtpofhijgccocpaaGreatDoor
open Go.AS Go.TP Go.RowKit
noncomputable section
theorem zamM (vals:Array Value)(w:World):(callFunc zah1 vals).run Tryz.prog w = .ok (.enter zah1 vals) w:=by
 have h0:(program).run Tryz.prog w = .ok Tryz.prog w:=rfl
 have hf:Tryz.prog.funcs[zah1]?=some (fn zah1):=fnOk zah1 (by kernel_rfl)
 have hn:((fn zah1).name == "runtime.NumGoroutine")=false:=by kernel_rfl
 have hb:(fn zah1).body.isNone=false:=by kernel_rfl
 simp only [callFunc,Sem.run_bind,h0,Result.andThen_ok,hf,hn,hb,Bool.false_eq_true,if_false,Sem.run_pure]
variable {E:Env} {w:World}
theorem zad4 {w':World}(h:Holds E .nil w)(hb:Below w.heap.size w w'):Holds E .nil w'/\Adv E .nil w E .nil w' :=
 ⟨⟨fun b o hm=>by
   have:=h.imm b o hm
   rw [hb.block b];exact this
   cases hl:w.heap[b]? with
   | none=>rw [hl] at this;cases this
   | some _=>exact (Array.getElem?_eq_some_iff.1 hl).1,
  fun l e he=>(by rw [zaax] at he;cases he),fun b hb=>(zal3 hb).elim,fun l l' e e' L L' b h1=>(by rw [zaax] at h1;cases h1)⟩,
  ⟨E.le_refl,hb.os,hb.tape,hb.output,hb.size,fun b hl _=>hb.block b hl,fun b h => .inl h,fun b h => .inl h⟩⟩
theorem zaep (w:World)(e:TypeId)(s:ByteArray):Below w.heap.size w (Lib.bytesWorld w e s):=Lib.bytesWorld_below w e s
theorem zaqY (s:ByteArray)(hs:s.size<=1000000)(v:Int)(h:Lib.atoiAll s.data.toList = .ok v):F zah1 [s0 s] (.tup [i0 v,.lit .nilIface]):=by
 intro E w vals hg hh hf _ hv
 obtain ⟨u,us,h1,h2,rfl⟩:=hv.vs_cons_inv
 have:=h1.lit_inv;subst this
 have:=h2.vs_nil_inv;subst this
 refine .inl ⟨zamM _ w,(Tryz.strconv_Atoi_ok s (by omega) v h w).mono ?_⟩
 rintro e w' ⟨rfl,hw⟩
 have hb:Below w.heap.size w w':=by
  rcases hw with rfl|⟨t,rfl⟩
  · exact Below.refl _ _
  · exact zaep _ _ _
 obtain ⟨g1,g2⟩:=zad4 hh hb
 exact ⟨_,rfl,.z,_,E,rfl,⟨fun l _=>rfl,fun l e he=>⟨e,he⟩⟩,.tup (.vcons (.lit _) (.vcons (.lit _) .vnil)),g1,g2⟩
theorem zajB {w':World}{N:Nat}{o:Obj}(h:Holds E .nil w)(hN:w.heap.size<=N)(ho:w'.heap[N]?=some o)(hb:Below w.heap.size w w') :
  ∃ E':Env,E.le E'/\E'.m N=some o/\Holds E' .nil w'/\Adv E .nil w E' .nil w':=by
 obtain ⟨g1,g2⟩:=zad4 h hb
 have hlt:∀ b o',E.m b=some o'->b<w.heap.size:=fun b o' hm=>by
  have:=h.imm b o' hm
  exact (Array.getElem?_eq_some_iff.1 this).1
 have hle:E.le ⟨E.ρ,fun b=>if b=N then some o else E.m b⟩:=⟨fun i L hi=>hi,fun b o' hm=>by
  show (if b=N then some o else E.m b)=some o'
  rw [if_neg (by have:=hlt b o' hm;omega)];exact hm⟩
 refine ⟨_,hle,if_pos rfl,⟨fun b o' hm => ?_,fun l e he=>(by rw [zaax] at he;cases he),fun b hb=>(zal3 hb).elim,fun l l' e e' L L' b h1=>(by rw [zaax] at h1;cases h1)⟩,
  ⟨hle,hb.os,hb.tape,hb.output,hb.size,fun b hl _=>hb.block b hl,fun b h=>(zal3 h).elim,fun b hm => ?_⟩⟩
 · by_cases hbN:b=N
   · subst hbN
     have hm:(if b=b then some o else E.m b)=some o':=hm
     rw [if_pos rfl] at hm;cases hm;exact ho
   · have hm:(if b=N then some o else E.m b)=some o':=hm
     rw [if_neg hbN] at hm;exact g1.imm b o' hm
 · by_cases hbN:b=N
   · exact .inr (.inr (by omega))
   · have hm:(if b=N then some o else E.m b)≠none:=hm
     rw [if_neg hbN] at hm;exact .inl hm
theorem zaf0 {g:Nat}{s:ByteArray}(hg:GLr gl0 E)(hh:Holds E .nil w)(h:gl0 g=some (.ref (zad9 s))):∃ v,w.cell? ⟨g,0,none⟩=some (.iface zab2 v)/\RR E.pure .o [.ref (.agg [s0 s])] [v]:=by
 have:=(hg g _ h).vr
 obtain ⟨b,off,c,t,fz,cs,rest,he,hm,hx,hc⟩:=this.ref_invP
 cases he
 obtain ⟨v,cs',h1,h2,rfl⟩:=hx.cs_cons_inv
 have:=h2.cs_nil_inv;subst this
 obtain ⟨u,rfl,h3⟩:=h1.iface_inv
 refine ⟨u,?_,h3⟩
 have h4:=hh.imm _ _ hm
 have h5:c.toList=[Value.iface zab2 u]++rest:=hc
 have h6:c[0]?=some (Value.iface zab2 u):=by rw [<-Array.getElem?_toList,h5];rfl
 unfold World.cell?
 rw [h4]
 exact h6
def zaCn (s e:ByteArray):AV := .ref (.agg [s0 ⟨#[65,116,111,105]⟩,s0 s,zad9 e])
theorem zajr {E':Env}{s e:ByteArray}{u:Value}{N:Nat}{t:TypeId}(hle:E.le E')(hm:E'.m N=some (.cells #[.string ⟨#[65,116,111,105]⟩,.string s,.iface zab2 u] t (0,0)))(hu:RR E.pure .o [.ref (.agg [s0 e])] [u]):VR E' (zaCn s e) (.pointer (some ⟨N,0,none⟩)):=by
 have h1:RR E'.pure .o [.ref (.agg [s0 e])] [u]:=hu.mono hle.pure
 have hx:RR E'.pure .cs [.agg [s0 ⟨#[65,116,111,105]⟩,s0 s,zad9 e]] ([Value.string ⟨#[65,116,111,105]⟩,.string s,.iface zab2 u]++[]) :=
  .ccons (v := .agg #[.string ⟨#[65,116,111,105]⟩,.string s,.iface zab2 u]) (.agg (.ccons (.lit _) (.ccons (.lit _) (.ccons (.iface _ h1) .cnil)))) .cnil
 exact .ref hm hx rfl
theorem zam8 (s:ByteArray)(hs:s.size<=1000000)(h:Lib.atoiAll s.data.toList=Lib.atoiAll []∨Lib.atoiAll s.data.toList = .range):∃ n u,F zah1 [s0 s] (.tup [i0 n,.iface zala (.ref u)]):=by
 rcases h with h|h
 · refine ⟨0,.agg [s0 ⟨#[65,116,111,105]⟩,s0 s,zad9 eSyn],?_⟩
   intro E w vals hg hh hf _ hv
   obtain ⟨u,us,h1,h2,rfl⟩:=hv.vs_cons_inv
   have:=h1.lit_inv;subst this
   have:=h2.vs_nil_inv;subst this
   obtain ⟨ev,hev,hvr⟩:=zaf0 hg hh (g:=zaei) rfl
   refine .inl ⟨zamM _ w,(Tryz.strconv_Atoi_syntax s (by omega) h _ w hev (.inr ⟨_,_,rfl⟩)).mono ?_⟩
   rintro e w' ⟨N,rfl,hN,ho,hb⟩
   obtain ⟨E',k1,k2,k3,k4⟩:=zajB hh hN ho hb
   exact ⟨_,rfl,.z,_,E',rfl,⟨fun l _=>rfl,fun l e he=>⟨e,he⟩⟩,.tup (.vcons (.lit _) (.vcons (.iface _ (zajr k1 k2 hvr)) .vnil)),k3,k4⟩
 · refine ⟨Lib.atoiSat s.data.toList,.agg [s0 ⟨#[65,116,111,105]⟩,s0 s,zad9 eRan],?_⟩
   intro E w vals hg hh hf _ hv
   obtain ⟨u,us,h1,h2,rfl⟩:=hv.vs_cons_inv
   have:=h1.lit_inv;subst this
   have:=h2.vs_nil_inv;subst this
   obtain ⟨ev,hev,hvr⟩:=zaf0 hg hh (g:=zahK) rfl
   refine .inl ⟨zamM _ w,(Tryz.strconv_Atoi_range s (by omega) h _ w hev (.inr ⟨_,_,rfl⟩)).mono ?_⟩
   rintro e w' ⟨N,rfl,hN,ho,hb⟩
   obtain ⟨E',k1,k2,k3,k4⟩:=zajB hh hN ho hb
   exact ⟨_,rfl,.z,_,E',rfl,⟨fun l _=>rfl,fun l e he=>⟨e,he⟩⟩,.tup (.vcons (.lit _) (.vcons (.iface _ (zajr k1 k2 hvr)) .vnil)),k3,k4⟩
theorem zaho:∀ (l:List UInt8) (acc m:Nat),l.all zacf=true->acc<10 ^ m->m+l.length<=12->∃ u:Nat,Lib.parseUint10 acc l = .ok u/\(u:Int)=l.foldl (fun a c=>10*a+(c.toNat-48:Int)) acc/\u<10 ^ (m+l.length)
 | [],acc,m,_,ha,_=>⟨acc,rfl,rfl,ha⟩
 | c::r,acc,m,h,ha,hl=>by
  rw [List.all_cons,Bool.and_eq_true] at h
  have hc:=zaiM (c:=c.toNat) (by rw [<-zajQ];exact h.1)
  rw [List.length_cons] at hl
  have hp:10 ^ m<=10 ^ 11:=Nat.pow_le_pow_right (by omega) (by omega)
  have hlt:acc*10+(c.toNat-48)<10 ^ (m+1):=by rw [Nat.pow_succ];omega
  obtain ⟨u,h1,h2,h3⟩:=zaho r (acc*10+(c.toNat-48)) (m+1) h.2 hlt (by omega)
  refine ⟨u,?_,?_,by rw [List.length_cons,show m+(r.length+1)=m+1+r.length by omega];exact h3⟩
  · rw [Lib.parseUint10,if_pos hc,if_neg (by omega),if_neg (by omega)];exact h1
  · rw [h2,List.foldl_cons];congr 1;omega
theorem zaiX {l:List UInt8}(h:l.all zacf=true)(h0:0<l.length)(h6:l.length<=6):Lib.atoiAll l = .ok (numB l):=by
 obtain ⟨u,h1,h2,h3⟩:=zaho l 0 0 h (by omega) (by omega)
 match l,h0 with
 | c::r,_ =>
  have hc:=zaiM (c:=c.toNat) (by rw [<-zajQ];rw [List.all_cons,Bool.and_eq_true] at h;exact h.1)
  have hp:10 ^ (0+(c::r).length)<=10 ^ 6:=Nat.pow_le_pow_right (by omega) (by omega)
  have e1:(if c.toNat=43∨c.toNat=45 then r else c::r)=c::r:=if_neg (by omega)
  have e2:Lib.parseMag (c::r) = .ok u:=by rw [Lib.parseMag,if_neg (by simp)];exact h1
  have e3:¬c.toNat=45:=by omega
  have e4:¬(¬c.toNat=45/\9223372036854775808<=u):=by omega
  have e5:¬(c.toNat=45/\9223372036854775808<u):=by omega
  unfold Lib.atoiAll
  simp only [e1,e2,if_neg e4,if_neg e5,if_neg e3,h2]
  rfl
end
end Go.Proofs.YtpofhijgccocpaaGreatDoor
end
section
namespace Go.Proofs.YtpofhijgccocpaaGreatDoor
open Go.AS Go.TP
noncomputable section
theorem zaCo {k a:Int}{x:ByteArray}{n:Int}{e:AV}{q:Ex × Back}(ha:F zah1 [s0 x] (.tup [i0 n,e]))(h:BNum (zady k a x 0) q):((X1.add zah1 (Sp.con [zanS x n e])).addLp zaaw 0 (zasE True k a x 0 q)).Sound :=
 (zakJ.add (zaek (s:=zanS x n e) fun _ _=>ha)).addLp (fnOk zaaw (by kernel_rfl)) (show (fn zaaw).body=some (code zaaw) by kernel_rfl) (by kernel_rfl)
  (Spl.ok (l:=[⟨Unit,fun _=>True,fun _=>zady k a x 0,fun _ => .nil,fun _=>q⟩]) rfl (show ([1,10,11,12]:List Nat).Nodup by decide) fun s' hs' i _=>by obtain rfl:=List.mem_singleton.1 hs';exact h)
attribute [local irreducible] runF in
theorem zaxj {k a:Int}{x:ByteArray}{n:Int}{e:AV}{q:Ex × Back}{os:Orc}{m:Int}{b:Bool}(ha:F zah1 [s0 x] (.tup [i0 n,e]))(h:BNum (zady k a x 0) q)(hg:zahL os k a x q n e m b):F zaaw [.agg [i0 k,i0 a,s0 x]] (.tup [i0 m,b0 b]) :=
 zade (X:=((X1.add zah1 (Sp.con [zanS x n e])).addLp zaaw 0 (zasE True k a x 0 q)).ask [zaaw]) (d:=10) ((zaCo ha h).ask _) (f:=zaaw) (fn:=fn zaaw) (code:=code zaaw) (fnOk zaaw (by kernel_rfl)) (show (fn zaaw).body=some (code zaaw) by kernel_rfl) (by kernel_rfl) hg
theorem zamq (k a:Int)(x:ByteArray)(n:Int)(e:AV):zaF6 Orc.z k a x n e:=by
 rw [zatE,zabg];exact ⟨rfl,(),⟨trivial,.refl _,rfl⟩,.refl _,.rfl⟩
theorem zaoM (a:Int)(x:ByteArray)(n:Int)(h:x.size<=6):zay5 zaqk a x n:=by
 rw [zaoL,zabg];exact ⟨rfl,(),⟨trivial,.refl _,rfl⟩,(),⟨trivial,.refl _,rfl⟩,rfl,rfl,rfl,rfl,decide_eq_true (by omega),rfl,.refl _,.rfl⟩
theorem zams (k a:Int)(x:ByteArray)(n:Int)(h:¬(k=1/\x.size<=6)):zaqO zalV k a x n:=by
 rw [zamr,zabg]
 refine ⟨rfl,(),⟨trivial,.refl _,rfl⟩,(),⟨trivial,.refl _,rfl⟩,fun h1=>⟨rfl,rfl,rfl,fun h2 => ?_,fun h2=>⟨rfl,.refl _,.rfl⟩⟩,fun h1=>⟨rfl,rfl,rfl,rfl,rfl,.refl _,.rfl⟩⟩
 have h1:=beq_iff_eq.1 h1
 have h2:(x.size:Int)<=6:=of_decide_eq_true h2
 exact absurd ⟨h1,by omega⟩ h
theorem zamu (k a:Int)(x:ByteArray)(n:Int)(t:Nat)(u:AV):zaqP zalW k a x n t u:=by
 rw [zamt,zabg]
 exact ⟨rfl,(),⟨trivial,.refl _,rfl⟩,(),⟨trivial,.refl _,rfl⟩,fun h1=>⟨rfl,rfl,rfl,fun h2=>⟨rfl,.refl _,.rfl⟩,fun h2=>⟨rfl,.refl _,.rfl⟩⟩,fun h1=>⟨rfl,rfl,rfl,rfl,rfl,.refl _,.rfl⟩⟩
theorem zamU (x:ByteArray):x.data.toList.all zacf=zaa5 zacf x 0:=by grind [zaa5]
attribute [local irreducible] runF runL in
theorem zakd (t:Tk)(n:Int)(h:zabr t=some n):F zaaw [encT t] (.tup [i0 n,b0 true]):=by
 obtain ⟨k,a,x⟩:=t
 unfold zabr at h
 split at h
 · rename_i hc
   cases h
   obtain ⟨h1,h2,h3,h4⟩:=hc
   have h1:k=1:=h1
   subst h1
   have h3:0<x.size:=h3
   have h4:x.size<=6:=h4
   have hl:x.data.toList.length=x.size:=by rw [Array.length_toList];rfl
   have hB:=numL 1 a x (by omega) x.size 0 (Int.le_refl _) (by omega)
   have h2:x.data.toList.all zacf=true:=h2
   rw [if_pos (by rw [<-zamU];exact h2)] at hB
   exact zaxj (zaqY x (by omega) _ (zaiX h2 (by omega) (by omega))) hB (zaoM a x _ h4)
 · cases h
attribute [local irreducible] runF runL in
theorem zake (t:Tk)(hs:t.text.size<=1000000)(h:zabr t=none):∃ n,F zaaw [encT t] (.tup [i0 n,b0 false]):=by
 obtain ⟨k,a,x⟩:=t
 have hs:x.size<=1000000:=hs
 have hB:=numL k a x hs x.size 0 (Int.le_refl _) (by omega)
 have ha:(∃ n,F zah1 [s0 x] (.tup [i0 n,.lit .nilIface])/\Lib.atoiAll x.data.toList = .ok n)∨∃ n u,F zah1 [s0 x] (.tup [i0 n,.iface zala (.ref u)]):=by
  generalize hq:Lib.atoiAll x.data.toList=q
  cases q
  · exact .inl ⟨_,zaqY x hs _ hq,rfl⟩
  · exact .inr (zam8 x hs (.inl (hq.trans rfl)))
  · exact .inr (zam8 x hs (.inr hq))
 by_cases hd:zaa5 zacf x 0=true
 · rw [if_pos hd] at hB
   rcases ha with ⟨n,h1,h2⟩|⟨n,u,h1⟩
   · refine ⟨n,zaxj h1 hB (zams k a x n fun hc => ?_)⟩
     unfold zabr at h
     split at h
     · cases h
     · rename_i hq
       refine hq ⟨hc.1,by rw [zamU];exact hd,?_,hc.2⟩
       show 0<x.size
       cases hz:x.size with
       | zero =>
         have hl:x.data.toList.length=x.size:=by rw [Array.length_toList];rfl
         have:x.data.toList=[]:=List.eq_nil_of_length_eq_zero (by omega)
         rw [this] at h2;cases h2
       | succ m=>omega
   · exact ⟨n,zaxj h1 hB (zamu k a x n _ u)⟩
 · rw [if_neg hd] at hB
   rcases ha with ⟨n,h1,h2⟩|⟨n,u,h1⟩
   · exact ⟨0,zaxj h1 hB (zamq k a x _ _)⟩
   · exact ⟨0,zaxj h1 hB (zamq k a x _ _)⟩
def mArg:AV := .ptr 1048577 [0,0] 0 0
def zakH (xs:List Int)(at_:Int):Hp:=hpL [(1048577,⟨[0,0],.row true 2 [.agg [.lst false 1 (xs.map i0),i0 at_]]⟩)]
def mOut (xs:List Int)(at_:Int)(x:AV):Back:=⟨x,zakH xs at_,[1048577]⟩
def zaln:Sp := .pure (Int × Int) (fun i=>0<i.2/\i.2<=1000000) (fun i=>[i0 i.1,i0 i.2]) (fun i=>i0 (i.1 % i.2))
def zaF0 (os:Orc)(n m:Int):Prop:=gF XB [zauV] zauV os [i0 n,i0 m] (i0 (n % m))
noncomputable def XK:WX:=XB.add zauV (Sp.con [zaln])
def hb0 (p:Int):Int:=[171,171,160,18,254,171].getD (p % 6).toNat 0
def zaCA (p:Int):List Value:=([hb0 p,p / 6*16 % 256,p*7 % 256]++List.replicate 28 0++[p]).map (Value.int .u8)
def zavw:Sp := .pure Int (fun n=>0<=n/\n<60) (fun n=>[i0 n]) (fun n => .agg ((zaCA n).map .lit))
def zaGe (os:Orc)(n:Int):Prop:=gF XK [zaBH] zaBH os [i0 n] (.agg ((zaCA n).map .lit))
noncomputable def XH:WX:=XK.add zaBH (Sp.con [zavw])
def zazd (os:Orc)(at_ n:Int):Prop:=runF (XK.ask [zaaQ]) 10 zaaQ (fn zaaQ) (code zaaQ) os 0 [] [mArg,i0 n] (zakH [] at_) (mOut [] at_ (i0 0))
def zaF7 (os:Orc)(xs:List Int)(at_ n v:Int):Prop:=runF ((XK.ask [zaaQ]).askAt zaaQ [32,33]) 10 zaaQ (fn zaaQ) (code zaaQ) os 0 [] [mArg,i0 n] (zakH xs at_) (mOut xs (at_+1) (i0 v))
end
end Go.Proofs.YtpofhijgccocpaaGreatDoor
end
section
namespace Go.Proofs.YtpofhijgccocpaaGreatDoor
open Go Go.AS Go.TP
theorem zats (n m:Int):zaF0 (Orc.s Orc.z Orc.z) n m=((!m==0)=true/\(decide (Int.tmod n m<0)=true->inR IntKind.i64 (Int.tmod n m+m)=true/\Wk (i0 (Int.tmod n m+m)) (i0 (n % m))/\S0)/\(decide (Int.tmod n m<0)=false->Wk (i0 (Int.tmod n m)) (i0 (n % m))/\S0)):=by kernel_rfl
theorem zatV (n:Int):zaGe (Orc.z) n=(∃ (i1:Int × Int),(((0:Int)<Prod.snd i1/\Prod.snd i1<=1000000)/\Wks [i0 n,i0 60] [i0 (Prod.fst i1),i0 (Prod.snd i1)]/\hpL []=hpL [])/\true=true/\(decide ((0:Int)<=Int.tmod (Prod.fst i1 % Prod.snd i1) (6:Int)/\Int.tmod (Prod.fst i1 % Prod.snd i1) (6:Int)<(6:Int))&&true)=true/\(inR IntKind.i64 (Int.tdiv (Prod.fst i1 % Prod.snd i1) (6:Int))&&true)=true/\inR IntKind.i64 (Int.tdiv (Prod.fst i1 % Prod.snd i1) (6:Int)*(16:Int))=true/\true=true/\inR IntKind.i64 (Prod.fst i1 % Prod.snd i1*7)=true/\true=true/\true=true/\Wk (AV.agg [u0 (List.getD (zaBC [Value.int IntKind.u8 (171:Int),Value.int IntKind.u8 (171:Int),Value.int IntKind.u8 (160:Int),Value.int IntKind.u8 (18:Int),Value.int IntKind.u8 (254:Int),Value.int IntKind.u8 (171:Int)]) (Int.toNat (Int.tmod (Prod.fst i1 % Prod.snd i1) (6:Int))) (0:Int)),u0 (IntKind.wrap IntKind.u8 (Int.tdiv (Prod.fst i1 % Prod.snd i1) (6:Int)*(16:Int))),u0 (IntKind.wrap IntKind.u8 (Prod.fst i1 % Prod.snd i1*7)),u0 (0:Int),u0 (0:Int),u0 (0:Int),u0 (0:Int),u0 (0:Int),u0 (0:Int),u0 (0:Int),u0 (0:Int),u0 (0:Int),u0 (0:Int),u0 (0:Int),u0 (0:Int),u0 (0:Int),u0 (0:Int),u0 (0:Int),u0 (0:Int),u0 (0:Int),u0 (0:Int),u0 (0:Int),u0 (0:Int),u0 (0:Int),u0 (0:Int),u0 (0:Int),u0 (0:Int),u0 (0:Int),u0 (0:Int),u0 (0:Int),u0 (0:Int),u0 (IntKind.wrap IntKind.u8 (Prod.fst i1 % Prod.snd i1))]) (AV.agg [u0 (hb0 n),u0 (n / (6:Int)*(16:Int) % (256:Int)),u0 (n*7 % (256:Int)),u0 (0:Int),u0 (0:Int),u0 (0:Int),u0 (0:Int),u0 (0:Int),u0 (0:Int),u0 (0:Int),u0 (0:Int),u0 (0:Int),u0 (0:Int),u0 (0:Int),u0 (0:Int),u0 (0:Int),u0 (0:Int),u0 (0:Int),u0 (0:Int),u0 (0:Int),u0 (0:Int),u0 (0:Int),u0 (0:Int),u0 (0:Int),u0 (0:Int),u0 (0:Int),u0 (0:Int),u0 (0:Int),u0 (0:Int),u0 (0:Int),u0 (0:Int),u0 n])/\S0):=by kernel_rfl
theorem zaoN (at_ n:Int):zazd (Orc.t Orc.z) at_ n=(let z1:=(hpL [eR 1048577 [0,0] 2 [AV.agg [L1 [],i0 at_]]]);Yt (Wk (i0 0) (i0 0)/\SameH z1 z1)):=by kernel_rfl
theorem zatF (xs:List Int)(at_ n v:Int):zaF7 (Orc.f Orc.z) xs at_ n v=(let z1:=(↑(List.length (List.map i0 xs)):Int);let z2:=(List.getD (List.map i0 xs) (Int.toNat (Int.tmod (at_+1) z1)) uu);let z3:=(hpL [eR 1048577 [0,0] 2 [AV.agg [L1 (List.map i0 xs),i0 (at_+1)]]]);let z4:=((1:Int)+Int.tdiv (at_+1) z1);(z1==0)=false/\inR IntKind.i64 (at_+1)=true/\(!(↑(List.length (List.map i0 xs)):Int)==0)=true/\(decide ((0:Int)<=Int.tmod (at_+1) z1/\Int.tmod (at_+1) z1<z1)&&(true&&(zaaF (Cx.B (cxV (WX.askAt (WX.ask XK [zaaQ]) zaaQ [32,33]) 10 zaaQ)) shN 3 z2&&(false||true))))=true/\(inR IntKind.i64 (Int.tdiv (at_+1) z1)&&!(↑(List.length (List.map i0 xs)):Int)==0)=true/\inR IntKind.i64 z4=true/\(inR IntKind.i64 (Int.tdiv (intA z2) z4)&&!(1:Int)+Int.tdiv (at_+1) z1==0)=true/\∃ (i1:Int × Int),(((0:Int)<Prod.snd i1/\Prod.snd i1<=1000000)/\Wks [i0 (Int.tdiv (intA z2) z4),i0 n] [i0 (Prod.fst i1),i0 (Prod.snd i1)]/\hpL []=hpL [])/\Wk (i0 (Prod.fst i1 % Prod.snd i1)) (i0 v)/\SameH z3 z3):=by kernel_rfl
end Go.Proofs.YtpofhijgccocpaaGreatDoor
end
section
namespace Go.Proofs.YtpofhijgccocpaaGreatDoor
open Go.AS Go.TP
noncomputable section
theorem zabv {f:Nat}{s:Sp}(h:∀ i,s.pre i->FOk Tryz.prog gl0 f (s.args i) (s.heap i) (s.out i)):zagZ Tryz.prog gl0 f (Sp.con [s]):=Sp.one h
theorem zatt (n m:Int)(h1:0<m)(h2:m<=1000000):zaF0 (Orc.s Orc.z Orc.z) n m:=by
 rw [zats]
 obtain ⟨e1,e2⟩:=zanH (n:=n) (m:=m) h1
 have h3:=Int.emod_nonneg n (by omega:m≠0)
 have h4:=Int.emod_lt_of_pos n h1
 refine ⟨by simp;omega,fun h => ?_,fun h => ?_⟩
 · have h:=of_decide_eq_true h
   exact ⟨zaag (by rw [e1 h];omega) (by rw [e1 h];omega),.of_eq (by rw [e1 h]),.rfl⟩
 · have h:=of_decide_eq_false h
   exact ⟨.of_eq (by rw [e2 h]),.rfl⟩
theorem zap8 (n m:Int)(h1:0<m)(h2:m<=1000000):F zauV [i0 n,i0 m] (i0 (n % m)):=F_ok zaaR rfl (by kernel_rfl) (by kernel_rfl) (by kernel_rfl) (zatt n m h1 h2)
theorem zaBN:XK.Sound:=zaaR.add (zabv (s:=zaln) fun i h=>zap8 i.1 i.2 h.1 h.2)
theorem zatW (n:Int)(h0:0<=n)(h1:n<60):zaGe Orc.z n:=by
 rw [zatV]
 have hp:n % 60=n:=Int.emod_eq_of_lt h0 h1
 have t6:n.tmod 6=n % 6:=Int.tmod_eq_emod_of_nonneg h0
 have d6:n.tdiv 6=n / 6:=Int.tdiv_eq_ediv_of_nonneg h0
 refine ⟨(n,60),⟨⟨by show (0:Int)<60;omega,by show (60:Int)<=1000000;omega⟩,.refl _,rfl⟩,rfl,?_⟩
 simp only [hp,t6,d6]
 have e:n % 256=n:=Int.emod_eq_of_lt h0 (by omega)
 refine ⟨?_,?_,zaag (by omega) (by omega),trivial,zaag (by omega) (by omega),trivial,trivial,?_,.rfl⟩
 · rw [decide_eq_true ⟨by omega,by omega⟩];rfl
 · rw [zaag (by omega) (by omega)];rfl
 · simp only [zai4,e]
   exact .refl _
theorem zaxI (n:Int)(h0:0<=n)(h1:n<60):F zaBH [i0 n] (.agg ((zaCA n).map .lit)):=F_ok zaBN rfl (by kernel_rfl) (by kernel_rfl) (by kernel_rfl) (zatW n h0 h1)
theorem zaq9:XH.Sound:=zaBN.add (zabv (s:=zavw) fun n h=>zaxI n h.1 h.2)
def digs:ByteArray:=⟨#[48,49,50,51,52,53,54,55,56,57,97,98,99,100,101,102]⟩
def zabB (xs:List Int)(at_ n at' v:Int):Sp:=⟨Unit,fun _=>True,fun _=>[mArg,i0 n],fun _=>zakH xs at_,fun _=>mOut xs at' (i0 v)⟩
def zauU (s:ByteArray)(i:Int):List AV:=[.ptr 1048578 [1,0] 0 0,.ptr 1048577 [0,0] 0 0,s0 s,s0 digs,i0 i]
def hRow (h:Nat->Int):List AV:=(List.range 32).map fun k => .lit (.int .u8 (h k))
def zaos (xs:List Int)(at_:Int)(h:Nat->Int):Hp:=hpL [(1048577,⟨[0,0],.row true 1 (hRow h)⟩),(1048578,⟨[1,0],.row true 2 [.agg [.lst false 1 (xs.map i0),i0 at_]]⟩)]
def nOut (xs:List Int)(at_:Int)(h:Nat->Int)(s:ByteArray):Ex × Back:=(.exit 0,⟨.tup [.ptr 1048578 [1,0] 0 0,s0 s],zaos xs at_ h,[]⟩)
abbrev lpNm (Q:ByteArray->Prop)(xs:List Int)(at_:Int)(h:Nat->Int)(i:Int)(r:Ex × Back):Lp :=
 ⟨[0,3,4,5,6],[],fun _=>[0,4],Spl.con [⟨ByteArray,fun s=>Q s,fun s=>zauU s i,fun _=>zaos xs at_ h,fun _=>r⟩]⟩
def rNm (os:Orc)(Q:ByteArray->Prop)(xs:List Int)(at_:Int)(h:Nat->Int)(s:ByteArray)(i j:Int)(t:ByteArray):Prop :=
 runL (XB.ask [zabd]) 10 zabd (fn zabd).ntmps (zaaX (code zabd) 0) (lpNm Q xs at_ h j (nOut xs at_ h t)) (lpNm Q xs at_ h j (nOut xs at_ h t)) os 0 [] (zauU s i) (zaos xs at_ h) (nOut xs at_ h t)
def rNmK (Q:ByteArray->Prop)(xs:List Int)(at_:Int)(h:Nat->Int)(s t:ByteArray)(k:Nat):Prop:=rNm (Orc.t Orc.z) Q xs at_ h s (k:Int) ((k:Int)+1) t
def zaD5 (os:Orc)(Q:ByteArray->Prop)(xs:List Int)(at_:Int)(h:Nat->Int)(s t:ByteArray):Prop:=rNm os Q xs at_ h s 32 33 s
def hB (p:Int)(k:Nat):Int:=[hb0 p,p / 6*16 % 256,p*7 % 256].getD k (if k=31 then p else 0)
def zaF8 (os:Orc)(xs:List Int)(at_ p at1 w at2:Int)(t s:ByteArray):Prop :=
 runF ((((XH.add zaaQ (Sp.con [zabB xs at_ 60 at1 p,zabB xs at1 12 at2 w])).addLp zabd 0 (lpNm (fun s=>s=ByteArray.empty) xs at1 (hB p) 0 (nOut xs at1 (hB p) t))).ask [zabd])) 10 zabd (fn zabd) (code zabd) os 0 [] [mArg] (zakH xs at_) (mOut xs at2 (s0 s))
end
end Go.Proofs.YtpofhijgccocpaaGreatDoor
end
section
namespace Go.Proofs.YtpofhijgccocpaaGreatDoor
open Go Go.AS Go.TP
theorem zar3 (Q:ByteArray->Prop)(xs:List Int)(at_:Int)(h:Nat->Int)(s t:ByteArray):zaD5 (Orc.f Orc.z) Q xs at_ h s t=(let z1:=(hpL [eR 1048577 [0,0] 1 (hR h),eR 1048578 [1,0] 2 [AV.agg [L1 (List.map i0 xs),i0 at_]]]);let z2:=(AV.tup [AV.ptr 1048578 [1,0] 0 0,s0 s]);Nf (Ex.exit 0=Ex.exit 0/\Wk z2 z2/\SameH z1 z1)):=by kernel_rfl
theorem zatH (xs:List Int)(at_ p:Int)(at1 w at2:Int)(t s:ByteArray):zaF8 (Orc.alt 0 (Orc.alt 1 (Orc.s Orc.z (Orc.s Orc.z (Orc.s Orc.z (Orc.s (Orc.t Orc.z) (Orc.s (Orc.t Orc.z) (Orc.s Orc.z Orc.z)))))))) xs at_ p at1 w at2 t s=(∃ (_:Unit),(True/\Wks [AV.ptr 1048577 [0,0] 0 0,i0 60] [AV.ptr 1048577 [0,0] 0 0,i0 60]/\hpL [eR 1048577 [0,0] 2 [AV.agg [L1 (List.map i0 xs),i0 at_]]]=hpL [eR 1048577 [0,0] 2 [AV.agg [L1 (List.map i0 xs),i0 at_]]])/\∃ (i2:Int),(((0:Int)<=i2/\i2<60)/\Wks [i0 p] [i0 i2]/\hpL []=hpL [])/\∃ (i3:ByteArray),(i3=ByteArray.empty/\Wks [AV.ptr 1048578 [1,0] 0 0,AV.ptr 1048577 [0,0] 0 0,s0 ⟨⟨[]⟩⟩,s0 digs,i0 0] [AV.ptr 1048578 [1,0] 0 0,AV.ptr 1048577 [0,0] 0 0,s0 i3,s0 digs,i0 0]/\hpL [eR 1048577 [0,0] 1 [u0 (hb0 i2),u0 (i2 / (6:Int)*(16:Int) % (256:Int)),u0 (i2*7 % (256:Int)),u0 (0:Int),u0 (0:Int),u0 (0:Int),u0 (0:Int),u0 (0:Int),u0 (0:Int),u0 (0:Int),u0 (0:Int),u0 (0:Int),u0 (0:Int),u0 (0:Int),u0 (0:Int),u0 (0:Int),u0 (0:Int),u0 (0:Int),u0 (0:Int),u0 (0:Int),u0 (0:Int),u0 (0:Int),u0 (0:Int),u0 (0:Int),u0 (0:Int),u0 (0:Int),u0 (0:Int),u0 (0:Int),u0 (0:Int),u0 (0:Int),u0 (0:Int),u0 i2],eR 1048578 [1,0] 2 [AV.agg [L1 (List.map i0 xs),i0 at1]]]=hpL [eR 1048577 [0,0] 1 [u0 (List.getD [hb0 p,p / (6:Int)*(16:Int) % (256:Int),p*7 % (256:Int)] 0 (if 0=31 then p else (0:Int))),u0 (List.getD [hb0 p,p / (6:Int)*(16:Int) % (256:Int),p*7 % (256:Int)] 1 (if 1=31 then p else (0:Int))),u0 (List.getD [hb0 p,p / (6:Int)*(16:Int) % (256:Int),p*7 % (256:Int)] 2 (if 2=31 then p else (0:Int))),u0 (List.getD [hb0 p,p / (6:Int)*(16:Int) % (256:Int),p*7 % (256:Int)] 3 (if 3=31 then p else (0:Int))),u0 (List.getD [hb0 p,p / (6:Int)*(16:Int) % (256:Int),p*7 % (256:Int)] 4 (if 4=31 then p else (0:Int))),u0 (List.getD [hb0 p,p / (6:Int)*(16:Int) % (256:Int),p*7 % (256:Int)] 5 (if 5=31 then p else (0:Int))),u0 (List.getD [hb0 p,p / (6:Int)*(16:Int) % (256:Int),p*7 % (256:Int)] 6 (if 6=31 then p else (0:Int))),u0 (List.getD [hb0 p,p / (6:Int)*(16:Int) % (256:Int),p*7 % (256:Int)] 7 (if 7=31 then p else (0:Int))),u0 (List.getD [hb0 p,p / (6:Int)*(16:Int) % (256:Int),p*7 % (256:Int)] 8 (if 8=31 then p else (0:Int))),u0 (List.getD [hb0 p,p / (6:Int)*(16:Int) % (256:Int),p*7 % (256:Int)] 9 (if 9=31 then p else (0:Int))),u0 (List.getD [hb0 p,p / (6:Int)*(16:Int) % (256:Int),p*7 % (256:Int)] 10 (if 10=31 then p else (0:Int))),u0 (List.getD [hb0 p,p / (6:Int)*(16:Int) % (256:Int),p*7 % (256:Int)] 11 (if 11=31 then p else (0:Int))),u0 (List.getD [hb0 p,p / (6:Int)*(16:Int) % (256:Int),p*7 % (256:Int)] 12 (if 12=31 then p else (0:Int))),u0 (List.getD [hb0 p,p / (6:Int)*(16:Int) % (256:Int),p*7 % (256:Int)] 13 (if 13=31 then p else (0:Int))),u0 (List.getD [hb0 p,p / (6:Int)*(16:Int) % (256:Int),p*7 % (256:Int)] 14 (if 14=31 then p else (0:Int))),u0 (List.getD [hb0 p,p / (6:Int)*(16:Int) % (256:Int),p*7 % (256:Int)] 15 (if 15=31 then p else (0:Int))),u0 (List.getD [hb0 p,p / (6:Int)*(16:Int) % (256:Int),p*7 % (256:Int)] 16 (if 16=31 then p else (0:Int))),u0 (List.getD [hb0 p,p / (6:Int)*(16:Int) % (256:Int),p*7 % (256:Int)] 17 (if 17=31 then p else (0:Int))),u0 (List.getD [hb0 p,p / (6:Int)*(16:Int) % (256:Int),p*7 % (256:Int)] 18 (if 18=31 then p else (0:Int))),u0 (List.getD [hb0 p,p / (6:Int)*(16:Int) % (256:Int),p*7 % (256:Int)] 19 (if 19=31 then p else (0:Int))),u0 (List.getD [hb0 p,p / (6:Int)*(16:Int) % (256:Int),p*7 % (256:Int)] 20 (if 20=31 then p else (0:Int))),u0 (List.getD [hb0 p,p / (6:Int)*(16:Int) % (256:Int),p*7 % (256:Int)] 21 (if 21=31 then p else (0:Int))),u0 (List.getD [hb0 p,p / (6:Int)*(16:Int) % (256:Int),p*7 % (256:Int)] 22 (if 22=31 then p else (0:Int))),u0 (List.getD [hb0 p,p / (6:Int)*(16:Int) % (256:Int),p*7 % (256:Int)] 23 (if 23=31 then p else (0:Int))),u0 (List.getD [hb0 p,p / (6:Int)*(16:Int) % (256:Int),p*7 % (256:Int)] 24 (if 24=31 then p else (0:Int))),u0 (List.getD [hb0 p,p / (6:Int)*(16:Int) % (256:Int),p*7 % (256:Int)] 25 (if 25=31 then p else (0:Int))),u0 (List.getD [hb0 p,p / (6:Int)*(16:Int) % (256:Int),p*7 % (256:Int)] 26 (if 26=31 then p else (0:Int))),u0 (List.getD [hb0 p,p / (6:Int)*(16:Int) % (256:Int),p*7 % (256:Int)] 27 (if 27=31 then p else (0:Int))),u0 (List.getD [hb0 p,p / (6:Int)*(16:Int) % (256:Int),p*7 % (256:Int)] 28 (if 28=31 then p else (0:Int))),u0 (List.getD [hb0 p,p / (6:Int)*(16:Int) % (256:Int),p*7 % (256:Int)] 29 (if 29=31 then p else (0:Int))),u0 (List.getD [hb0 p,p / (6:Int)*(16:Int) % (256:Int),p*7 % (256:Int)] 30 (if 30=31 then p else (0:Int))),u0 (List.getD [hb0 p,p / (6:Int)*(16:Int) % (256:Int),p*7 % (256:Int)] 31 (if 31=31 then p else (0:Int)))],eR 1048578 [1,0] 2 [AV.agg [L1 (List.map i0 xs),i0 at1]]])/\∃ (_:Unit),(True/\Wks [AV.ptr 1048577 [0,0] 0 0,i0 12] [AV.ptr 1048577 [0,0] 0 0,i0 12]/\hpL [eR 1048577 [0,0] 2 [AV.agg [L1 (List.map i0 xs),i0 at1]]]=hpL [eR 1048577 [0,0] 2 [AV.agg [L1 (List.map i0 xs),i0 at1]]])/\((w==0)=true->decide ((0:Int)<=(0:Int)/\(0:Int)<=Option.getD (some (2:Int)) (↑(ByteArray.size t):Int)/\Option.getD (some (2:Int)) (↑(ByteArray.size t):Int)<=(↑(ByteArray.size t):Int)/\false=false)=true/\Wk (s0 (ByteArray.extract t 0 (Int.toNat (Option.getD (some (2:Int)) (↑(ByteArray.size t):Int))))) (s0 s)/\SameH (hpL [eR 1048577 [0,0] 2 [AV.agg [L1 (List.map i0 xs),i0 at2]]]) (hpL [eR 1048577 [0,0] 2 [AV.agg [L1 (List.map i0 xs),i0 at2]]]))/\((w==0)=false->((w==1)=true->decide ((0:Int)<=(0:Int)/\(0:Int)<=Option.getD (some (4:Int)) (↑(ByteArray.size t):Int)/\Option.getD (some (4:Int)) (↑(ByteArray.size t):Int)<=(↑(ByteArray.size t):Int)/\false=false)=true/\Wk (s0 (ByteArray.extract t 0 (Int.toNat (Option.getD (some (4:Int)) (↑(ByteArray.size t):Int))))) (s0 s)/\SameH (hpL [eR 1048577 [0,0] 2 [AV.agg [L1 (List.map i0 xs),i0 at2]]]) (hpL [eR 1048577 [0,0] 2 [AV.agg [L1 (List.map i0 xs),i0 at2]]]))/\((w==1)=false->((w==2)=true->Wk (s0 ⟨⟨[(48:UInt8),(48:UInt8)]⟩⟩) (s0 s)/\SameH (hpL [eR 1048577 [0,0] 2 [AV.agg [L1 (List.map i0 xs),i0 at2]]]) (hpL [eR 1048577 [0,0] 2 [AV.agg [L1 (List.map i0 xs),i0 at2]]]))/\((w==2)=false->((w==3)=true->true=true/\decide ((0:Int)<=(0:Int)/\(0:Int)<=Option.getD (some (6:Int)) (↑(ByteArray.size t):Int)/\Option.getD (some (6:Int)) (↑(ByteArray.size t):Int)<=(↑(ByteArray.size t):Int)/\false=false)=true/\Wk (s0 (ByteArray.extract t 0 (Int.toNat (Option.getD (some (6:Int)) (↑(ByteArray.size t):Int))))) (s0 s)/\SameH (hpL [eR 1048577 [0,0] 2 [AV.agg [L1 (List.map i0 xs),i0 at2]]]) (hpL [eR 1048577 [0,0] 2 [AV.agg [L1 (List.map i0 xs),i0 at2]]]))/\((w==3)=false->((w==4)=true->true=true/\decide ((0:Int)<=(0:Int)/\(0:Int)<=Option.getD (some (6:Int)) (↑(ByteArray.size t):Int)/\Option.getD (some (6:Int)) (↑(ByteArray.size t):Int)<=(↑(ByteArray.size t):Int)/\false=false)=true/\Wk (s0 (ByteArray.extract t 0 (Int.toNat (Option.getD (some (6:Int)) (↑(ByteArray.size t):Int))))) (s0 s)/\SameH (hpL [eR 1048577 [0,0] 2 [AV.agg [L1 (List.map i0 xs),i0 at2]]]) (hpL [eR 1048577 [0,0] 2 [AV.agg [L1 (List.map i0 xs),i0 at2]]]))/\((w==4)=false->((w==5)=true->decide ((0:Int)<=(0:Int)/\(0:Int)<=Option.getD (some (6:Int)) (↑(ByteArray.size t):Int)/\Option.getD (some (6:Int)) (↑(ByteArray.size t):Int)<=(↑(ByteArray.size t):Int)/\false=false)=true/\Wk (s0 (ByteArray.extract t 0 (Int.toNat (Option.getD (some (6:Int)) (↑(ByteArray.size t):Int))))) (s0 s)/\SameH (hpL [eR 1048577 [0,0] 2 [AV.agg [L1 (List.map i0 xs),i0 at2]]]) (hpL [eR 1048577 [0,0] 2 [AV.agg [L1 (List.map i0 xs),i0 at2]]]))/\((w==5)=false->Wk (s0 t) (s0 s)/\SameH (hpL [eR 1048577 [0,0] 2 [AV.agg [L1 (List.map i0 xs),i0 at2]]]) (hpL [eR 1048577 [0,0] 2 [AV.agg [L1 (List.map i0 xs),i0 at2]]])))))))):=by kernel_rfl
end Go.Proofs.YtpofhijgccocpaaGreatDoor
end
section
namespace Go.Proofs.YtpofhijgccocpaaGreatDoor
open Go.AS Go.TP
noncomputable section
theorem zaDr:((XK.ask [zaaQ]).askAt zaaQ [32,33]).Sound:=(zaBN.ask _).askAt _ _
theorem zaGX (n:Int):zaaF (Cx.B (cxV (WX.askAt (WX.ask XK [zaaQ]) zaaQ [32,33]) 10 zaaQ)) shN 3 (i0 n)=true:=by kernel_rfl
def okXs (xs:List Int):Prop:=∀ x∈xs,-9223372036854775808<=x/\x<9223372036854775808
theorem zaoO (at_ n:Int):zazd (Orc.t Orc.z) at_ n:=by
 rw [zaoN];exact ⟨rfl,.refl _,.rfl⟩
theorem zatG (xs:List Int)(at_ n:Int)(hx:okXs xs)(hl:xs≠[])(h0:0<=at_)(h1:at_<=1000000)(hn:0<n)(hm:n<=1000000) :
  ∃ v,0<=v/\v<n/\zaF7 (Orc.f Orc.z) xs at_ n v:=by
 have hp:0<xs.length:=List.length_pos_iff.2 hl
 have hp':(0:Int)<(xs.length:Int):=by omega
 have tm:(at_+1).tmod xs.length=(at_+1) % xs.length:=Int.tmod_eq_emod_of_nonneg (by omega)
 have td:(at_+1).tdiv xs.length=(at_+1) / xs.length:=Int.tdiv_eq_ediv_of_nonneg (by omega)
 have k1:=Int.emod_nonneg (at_+1) (by omega:(xs.length:Int)≠0)
 have k2:=Int.emod_lt_of_pos (at_+1) hp'
 have k3:0<=(at_+1) / xs.length:=Int.ediv_nonneg (by omega) (by omega)
 have k4:(at_+1) / xs.length<=at_+1:=Int.ediv_le_self _ (by omega)
 let k:=((at_+1) % (xs.length:Int)).toNat
 have hk:k<xs.length:=by show ((at_+1) % (xs.length:Int)).toNat<_;omega
 have hg:∀ u,(xs.map i0).getD k u=i0 (xs.getD k 0):=by
  intro u
  simp [List.getD_eq_getElem?_getD,List.getElem?_map,List.getElem?_eq_getElem hk]
 have hxk : -9223372036854775808<=xs.getD k 0/\xs.getD k 0<9223372036854775808:=by
  have:xs.getD k 0=xs[k]:=by simp [List.getD_eq_getElem?_getD,List.getElem?_eq_getElem hk]
  rw [this];exact hx _ (List.getElem_mem hk)
 refine ⟨(xs.getD k 0).tdiv (1+(at_+1) / xs.length) % n,Int.emod_nonneg _ (by omega),Int.emod_lt_of_pos _ hn,?_⟩
 rw [zatF]
 simp only [List.length_map,tm,td]
 rw [show ((at_+1) % (xs.length:Int)).toNat=k from rfl,hg]
 have q1:(0:Int)<=(at_+1) / xs.length:=k3
 generalize (at_+1) / (xs.length:Int)=D at k3 k4 q1 ⊢
 have hb:((xs.length:Int)==0)=false:=beq_eq_false_iff_ne.2 (by omega)
 have hbd:((1+D:Int)==0)=false:=beq_eq_false_iff_ne.2 (by omega)
 have r1 : -9223372036854775808<=(xs.getD k 0).tdiv (1+D)/\(xs.getD k 0).tdiv (1+D)<9223372036854775808:=by
  have h:=hxk
  rcases Int.le_total 0 (xs.getD k 0) with hc|hc
  · have a:=Int.tdiv_nonneg hc (by omega:0<=1+D)
    have b:(xs.getD k 0).tdiv (1+D)<=xs.getD k 0:=by
      rw [Int.tdiv_eq_ediv_of_nonneg hc];exact Int.ediv_le_self _ hc
    omega
  · have hc':0 <= -(xs.getD k 0):=by omega
    have e:(xs.getD k 0).tdiv (1+D) = -((-(xs.getD k 0)).tdiv (1+D)):=by rw [Int.neg_tdiv];omega
    have a:=Int.tdiv_nonneg hc' (by omega:0<=1+D)
    have b:(-(xs.getD k 0)).tdiv (1+D) <= -(xs.getD k 0):=by
      rw [Int.tdiv_eq_ediv_of_nonneg hc'];exact Int.ediv_le_self _ hc'
    omega
 refine ⟨hb,zaag (by omega) (by omega),by rw [hb];rfl,?_,?_,zaag (by omega) (by omega),?_,(_,n),⟨⟨hn,hm⟩,.refl _,trivial⟩,.refl _,.rfl⟩
 · rw [decide_eq_true ⟨k1,k2⟩,zaGX];rfl
 · rw [hb,zaag (by omega) (by omega)];rfl
 · rw [hbd]
   show (inR .i64 ((xs.getD k 0).tdiv (1+D))&&true)=true
   rw [zaag (by omega) (by omega)];rfl
attribute [local irreducible] runF in
theorem zacK (xs:List Int)(at_ n:Int)(hx:okXs xs)(h0:0<=at_)(h1:at_<=1000000)(hn:0<n)(hm:n<=1000000) :
  ∃ v at',0<=v/\v<n/\at_<=at'/\at'<=at_+1/\FOk Tryz.prog gl0 zaaQ [mArg,i0 n] (zakH xs at_) (mOut xs at' (i0 v)):=by
 by_cases hl:xs=[]
 · subst hl
   refine ⟨0,at_,by omega,hn,by omega,by omega,?_⟩
   exact zade (X:=XK.ask [zaaQ]) (d:=10) (zaBN.ask _) (f:=zaaQ) (fn:=fn zaaQ) (code:=code zaaQ) (fnOk zaaQ (by kernel_rfl)) (show (fn zaaQ).body=some (code zaaQ) by kernel_rfl) (by kernel_rfl) (zaoO at_ n)
 · obtain ⟨v,a,b,g⟩:=zatG xs at_ n hx hl h0 h1 hn hm
   exact ⟨v,at_+1,a,b,by omega,by omega,zade (X:=(XK.ask [zaaQ]).askAt zaaQ [32,33]) (d:=10) zaDr (f:=zaaQ) (fn:=fn zaaQ) (code:=code zaaQ) (fnOk zaaQ (by kernel_rfl)) (show (fn zaaQ).body=some (code zaaQ) by kernel_rfl) (by kernel_rfl) g⟩
def hiB (x:Int):ByteArray:=ByteArray.extract digs (Int.toNat (Option.getD (some (IntKind.wrap IntKind.u8 (Int.tdiv x (16:Int)))) (0:Int))) (Int.toNat (Option.getD (some (IntKind.wrap IntKind.u8 (IntKind.wrap IntKind.u8 (Int.tdiv x (16:Int))+(1:Int)))) (16:Int)))
def loB (x:Int):ByteArray:=ByteArray.extract digs (Int.toNat (Option.getD (some (Int.tmod x (16:Int))) (0:Int))) (Int.toNat (Option.getD (some (IntKind.wrap IntKind.u8 (Int.tmod x (16:Int)+(1:Int)))) (16:Int)))
variable {x:Int} {s:ByteArray} {n:Nat}
theorem hi_n (h:0<=x/\x<256):IntKind.wrap IntKind.u8 (Int.tdiv x 16)=x / 16:=by
 rw [zai4,Int.tdiv_eq_ediv_of_nonneg h.1];omega
theorem hi_m (h:0<=x/\x<256):IntKind.wrap IntKind.u8 (IntKind.wrap IntKind.u8 (Int.tdiv x 16)+1)=x / 16+1:=by
 rw [hi_n h,zai4];omega
theorem lo_n (h:0<=x/\x<256):Int.tmod x 16=x % 16:=Int.tmod_eq_emod_of_nonneg h.1
theorem lo_m (h:0<=x/\x<256):IntKind.wrap IntKind.u8 (Int.tmod x 16+1)=x % 16+1:=by
 rw [lo_n h,zai4];omega
theorem zaHs (h:0<=x/\x<256):decide ((0:Int)<=Option.getD (some (IntKind.wrap IntKind.u8 (Int.tdiv x (16:Int)))) (0:Int)/\Option.getD (some (IntKind.wrap IntKind.u8 (Int.tdiv x (16:Int)))) (0:Int)<=Option.getD (some (IntKind.wrap IntKind.u8 (IntKind.wrap IntKind.u8 (Int.tdiv x (16:Int))+(1:Int)))) (16:Int)/\Option.getD (some (IntKind.wrap IntKind.u8 (IntKind.wrap IntKind.u8 (Int.tdiv x (16:Int))+(1:Int)))) (16:Int)<=(16:Int)/\false=false)=true:=by
 rw [hi_m h,hi_n h,Option.getD_some,Option.getD_some,decide_eq_true_iff]
 exact ⟨by omega,by omega,by omega,rfl⟩
theorem zaHb (h:0<=x/\x<256):decide ((0:Int)<=Option.getD (some (Int.tmod x (16:Int))) (0:Int)/\Option.getD (some (Int.tmod x (16:Int))) (0:Int)<=Option.getD (some (IntKind.wrap IntKind.u8 (Int.tmod x (16:Int)+(1:Int)))) (16:Int)/\Option.getD (some (IntKind.wrap IntKind.u8 (Int.tmod x (16:Int)+(1:Int)))) (16:Int)<=(16:Int)/\false=false)=true:=by
 rw [lo_m h,lo_n h,Option.getD_some,Option.getD_some,decide_eq_true_iff]
 exact ⟨by omega,by omega,by omega,rfl⟩
theorem zajP:digs.size=16:=rfl
theorem zaqJ (h:0<=x/\x<256):(hiB x).size=1:=by
 unfold hiB
 rw [hi_m h,hi_n h,Option.getD_some,Option.getD_some,ByteArray.size_extract,zajP];omega
theorem zaqA (h:0<=x/\x<256):(loB x).size=1:=by grind [loB,lo_m,lo_n,ByteArray.size_extract,zajP]
theorem zaDM {t:ByteArray}(hs:s.size=n)(ht:t.size=1)(hn:n<=100):decide (s.size+t.size<=9223372036854775807)=true:=decide_eq_true (by omega)
def nxt (s:ByteArray)(x:Int):ByteArray:=s++hiB x++loB x
theorem sz1 (hs:s.size=n)(h:0<=x/\x<256):(s++hiB x).size=n+1:=by rw [ByteArray.size_append,zaqJ h,hs]
theorem zasy (hs:s.size=n)(h:0<=x/\x<256):(nxt s x).size=n+2:=by unfold nxt;rw [ByteArray.size_append,zaqA h,sz1 hs h]
abbrev BNm (xs:List Int)(at_:Int)(h:Nat->Int)(s:ByteArray)(i:Int)(t:ByteArray):Prop:=zab9 Tryz.prog gl0 (fn zabd).ntmps (zaaX (code zabd) 0) [0,3,4,5,6] (fun _=>[0,4]) (zauU s i) (zaos xs at_ h) fun _ q=>q=nOut xs at_ h t
abbrev zaFu (Q:ByteArray->Prop)(xs:List Int)(at_:Int)(h:Nat->Int)(i:Int)(t:ByteArray):Spl:=⟨ByteArray,fun s=>Q s,fun s=>zauU s i,fun _=>zaos xs at_ h,fun _=>nOut xs at_ h t⟩
attribute [local irreducible] runL in
theorem zaqy {os:Orc}{Q:ByteArray->Prop}{xs:List Int}{at_:Int}{h:Nat->Int}{t:ByteArray}{i j:Int}(ih:∀ s',Q s'->BNm xs at_ h s' j t)(g:rNm os Q xs at_ h s i j t):BNm xs at_ h s i t :=
 zad1 (X:=XB.ask [zabd]) (zaaR.ask _) (f:=zabd) (fn:=fn zabd) (code:=code zabd) (fnOk zabd (by kernel_rfl)) (show (fn zabd).body=some (code zabd) by kernel_rfl) (L:=lpNm Q xs at_ h j (nOut xs at_ h t)) (L':=lpNm Q xs at_ h j (nOut xs at_ h t)) (l:=[zaFu Q xs at_ h j t]) rfl (show ([0,3,4,5,6]:List Nat).Nodup by decide)
  (fun s' hs' q hq=>by obtain rfl:=List.mem_singleton.1 hs';exact ih q hq) g
attribute [local irreducible] runL in
theorem nm32 (xs:List Int)(at_:Int)(h:Nat->Int)(s:ByteArray)(hs:s.size=64):∃ t,t.size=64/\BNm xs at_ h s 32 t:=by
 refine ⟨s,hs,zaqy (Q:=fun _=>False) (os:=Orc.f Orc.z) (j:=33) (fun _ h=>h.elim) ?_⟩
 show zaD5 (Orc.f Orc.z) (fun _=>False) xs at_ h s s
 rw [zar3]
 exact ⟨rfl,rfl,.refl _,.rfl⟩
def nmT (Q:ByteArray->Prop)(xs:List Int)(at_:Int)(h:Nat->Int)(s t:ByteArray)(k:Nat):Prop :=
 true=true/\(true&&true)=true/\(true&&true)=true/\true=true /\
 decide ((0:Int)<=Option.getD (some (IntKind.wrap IntKind.u8 (Int.tdiv (h k) (16:Int)))) (0:Int)/\Option.getD (some (IntKind.wrap IntKind.u8 (Int.tdiv (h k) (16:Int)))) (0:Int)<=Option.getD (some (IntKind.wrap IntKind.u8 (IntKind.wrap IntKind.u8 (Int.tdiv (h k) (16:Int))+(1:Int)))) (16:Int)/\Option.getD (some (IntKind.wrap IntKind.u8 (IntKind.wrap IntKind.u8 (Int.tdiv (h k) (16:Int))+(1:Int)))) (16:Int)<=(16:Int)/\false=false)=true /\
 decide (s.size+(hiB (h k)).size<=9223372036854775807)=true/\true=true/\true=true/\true=true /\
 decide ((0:Int)<=Option.getD (some (Int.tmod (h k) (16:Int))) (0:Int)/\Option.getD (some (Int.tmod (h k) (16:Int))) (0:Int)<=Option.getD (some (IntKind.wrap IntKind.u8 (Int.tmod (h k) (16:Int)+(1:Int)))) (16:Int)/\Option.getD (some (IntKind.wrap IntKind.u8 (Int.tmod (h k) (16:Int)+(1:Int)))) (16:Int)<=(16:Int)/\false=false)=true /\
 decide ((s++hiB (h k)).size+(loB (h k)).size<=9223372036854775807)=true/\true=true /\
 ∃ u:ByteArray,(Q u/\Wks (zauU (s++hiB (h k)++loB (h k)) ((k:Int)+1)) (zauU u ((k:Int)+1))/\zaos xs at_ h=zaos xs at_ h)/\Ex.exit 0=Ex.exit 0/\Wk (nOut xs at_ h t).2.x (nOut xs at_ h t).2.x/\SameH (zaos xs at_ h) (zaos xs at_ h)
theorem zavV (Q:ByteArray->Prop)(xs:List Int)(at_:Int)(h:Nat->Int)(s t:ByteArray):∀ k,k<32->rNmK Q xs at_ h s t k=nmT Q xs at_ h s t k
 | 0,_=>by kernel_rfl
 | 1,_=>by kernel_rfl
 | 2,_=>by kernel_rfl
 | 3,_=>by kernel_rfl
 | 4,_=>by kernel_rfl
 | 5,_=>by kernel_rfl
 | 6,_=>by kernel_rfl
 | 7,_=>by kernel_rfl
 | 8,_=>by kernel_rfl
 | 9,_=>by kernel_rfl
 | 10,_=>by kernel_rfl
 | 11,_=>by kernel_rfl
 | 12,_=>by kernel_rfl
 | 13,_=>by kernel_rfl
 | 14,_=>by kernel_rfl
 | 15,_=>by kernel_rfl
 | 16,_=>by kernel_rfl
 | 17,_=>by kernel_rfl
 | 18,_=>by kernel_rfl
 | 19,_=>by kernel_rfl
 | 20,_=>by kernel_rfl
 | 21,_=>by kernel_rfl
 | 22,_=>by kernel_rfl
 | 23,_=>by kernel_rfl
 | 24,_=>by kernel_rfl
 | 25,_=>by kernel_rfl
 | 26,_=>by kernel_rfl
 | 27,_=>by kernel_rfl
 | 28,_=>by kernel_rfl
 | 29,_=>by kernel_rfl
 | 30,_=>by kernel_rfl
 | 31,_=>by kernel_rfl
 | k+32,h=>absurd h (by omega)
attribute [local irreducible] runL in
theorem nmL (xs:List Int)(at_:Int)(h:Nat->Int)(hh:∀ k,0<=h k/\h k<256):∀ (n k:Nat) (s:ByteArray),k+n=32->s.size=2*k->∃ t,t.size=64/\BNm xs at_ h s (k:Int) t:=by
 intro n
 induction n with
 | zero => intro k s hk hs; obtain rfl : k = 32 := by omega
           exact nm32 xs at_ h s hs
 | succ n ih =>
  intro k s hk hs
  obtain ⟨t,ht,hB⟩:=ih (k+1) (nxt s (h k)) (by omega) (by rw [zasy hs (hh k)];omega)
  refine ⟨t,ht,zaqy (Q:=fun s'=>s'=nxt s (h k)) (os:=Orc.t Orc.z) (j:=(k:Int)+1) (fun s' e=>by rw [e];exact hB) ?_⟩
  show rNmK (fun s'=>s'=nxt s (h k)) xs at_ h s t k
  rw [zavV _ _ _ _ _ _ k (by omega)]
  exact ⟨rfl,rfl,rfl,rfl,zaHs (hh k),zaDM hs (zaqJ (hh k)) (by omega),rfl,rfl,rfl,zaHb (hh k),zaDM (sz1 hs (hh k)) (zaqA (hh k)) (by omega),rfl,nxt s (h k),⟨rfl,.refl _,rfl⟩,rfl,.refl _,.rfl⟩
theorem nm0 (xs:List Int)(at_:Int)(h:Nat->Int)(hh:∀ k,0<=h k/\h k<256)(s:ByteArray)(hs:s.size=0):∃ t,t.size=64/\BNm xs at_ h s 0 t:=nmL xs at_ h hh 32 0 s rfl hs
def spE (xs:List Int)(at_ d at':Int)(a:ByteArray):Sp:=⟨Unit,fun _=>True,fun _=>[mArg,i0 d],fun _=>zakH xs at_,fun _=>mOut xs at' (s0 a)⟩
def spNm (xs:List Int)(at_ at':Int)(a:ByteArray):Sp:=⟨Unit,fun _=>True,fun _=>[mArg],fun _=>zakH xs at_,fun _=>mOut xs at' (s0 a)⟩
def gEx (X:WX)(os:Orc)(xs:List Int)(at_ d at':Int)(r:ByteArray):Prop:=runF (X.ask [zab6]) 12 zab6 (fn zab6) (code zab6) os 0 [] [mArg,i0 d] (zakH xs at_) (mOut xs at' (s0 r))
def X1a (xs:List Int)(at_ d at1 at2 k:Int)(a:ByteArray):WX:=(XH.add zaaQ (Sp.con [zabB xs at_ 26 at1 k])).add zab6 (Sp.con [spE xs at1 (d+1) at2 a])
def X1b (xs:List Int)(at_ d at1 at2 at3 k n v:Int)(a:ByteArray):WX:=(XH.add zaaQ (Sp.con [zabB xs at_ 26 at1 k,zabB xs at2 n at3 v])).add zab6 (Sp.con [spE xs at1 (d+1) at2 a])
def X1c (xs:List Int)(at_ d at1 at2 at3 at4 k v w:Int)(a:ByteArray):WX:=(XH.add zaaQ (Sp.con [zabB xs at_ 26 at1 k,zabB xs at2 3 at3 v,zabB xs at3 4 at4 w])).add zab6 (Sp.con [spE xs at1 (d+1) at2 a])
def X2a (xs:List Int)(at_ d at1 at2 at3 k:Int)(a b:ByteArray):WX:=(XH.add zaaQ (Sp.con [zabB xs at_ 26 at1 k])).add zab6 (Sp.con [spE xs at1 (d+1) at2 a,spE xs at2 (d+1) at3 b])
def X2b (xs:List Int)(at_ d at1 at2 at3 at4 k n v:Int)(a b:ByteArray):WX:=(XH.add zaaQ (Sp.con [zabB xs at_ 26 at1 k,zabB xs at2 n at3 v])).add zab6 (Sp.con [spE xs at1 (d+1) at2 a,spE xs at3 (d+1) at4 b])
def XLa (xs:List Int)(at_ at1 at2 k v:Int):WX:=XH.add zaaQ (Sp.con [zabB xs at_ 26 at1 k,zabB xs at1 3 at2 v])
def XLn (xs:List Int)(at_ at1 at2 k:Int)(s:ByteArray):WX:=(XH.add zaaQ (Sp.con [zabB xs at_ 26 at1 k])).add zabd (Sp.con [spNm xs at1 at2 s])
def gLaA (os:Orc)(xs:List Int)(at_ d at1 at2 k v:Int)(r:ByteArray):Prop:=gEx (XLa xs at_ at1 at2 k v) os xs at_ d at2 r
def gLnA (os:Orc)(xs:List Int)(at_ d at1 at2 k:Int)(s:ByteArray):Prop:=gEx (XLn xs at_ at1 at2 k s) os xs at_ d at2 s
def gLaB (os:Orc)(xs:List Int)(at_ d at1 at2 k v:Int)(r:ByteArray):Prop:=gEx (XLa xs at_ at1 at2 k v) os xs at_ d at2 r
def gLnB (os:Orc)(xs:List Int)(at_ d at1 at2 k:Int)(s:ByteArray):Prop:=gEx (XLn xs at_ at1 at2 k s) os xs at_ d at2 s
def gLaC (os:Orc)(xs:List Int)(at_ d at1 at2 k v:Int)(r:ByteArray):Prop:=gEx (XLa xs at_ at1 at2 k v) os xs at_ d at2 r
def gLnC (os:Orc)(xs:List Int)(at_ d at1 at2 k:Int)(s:ByteArray):Prop:=gEx (XLn xs at_ at1 at2 k s) os xs at_ d at2 s
def gE0 (os:Orc)(xs:List Int)(at_ d at1 at2 at3 at4 v:Int)(a b r:ByteArray):Prop:=gEx (X2b xs at_ d at1 at2 at3 at4 0 3 v a b) os xs at_ d at4 r
def gE1 (os:Orc)(xs:List Int)(at_ d at1 at2 at3 at4 v:Int)(a b r:ByteArray):Prop:=gEx (X2b xs at_ d at1 at2 at3 at4 1 3 v a b) os xs at_ d at4 r
def gE2 (os:Orc)(xs:List Int)(at_ d at1 at2 at3 at4 v:Int)(a b r:ByteArray):Prop:=gEx (X2b xs at_ d at1 at2 at3 at4 2 2 v a b) os xs at_ d at4 r
def gE3 (os:Orc)(xs:List Int)(at_ d at1 at2 at3 at4 v:Int)(a b r:ByteArray):Prop:=gEx (X2b xs at_ d at1 at2 at3 at4 3 2 v a b) os xs at_ d at4 r
def gE4 (os:Orc)(xs:List Int)(at_ d at1 at2 at3 v:Int)(a r:ByteArray):Prop:=gEx (X1b xs at_ d at1 at2 at3 4 2 v a) os xs at_ d at3 r
def gE5 (os:Orc)(xs:List Int)(at_ d at1 at2:Int)(a r:ByteArray):Prop:=gEx (X1a xs at_ d at1 at2 5 a) os xs at_ d at2 r
def gE6 (os:Orc)(xs:List Int)(at_ d at1 at2:Int)(a r:ByteArray):Prop:=gEx (X1a xs at_ d at1 at2 6 a) os xs at_ d at2 r
def gE7 (os:Orc)(xs:List Int)(at_ d at1 at2:Int)(a r:ByteArray):Prop:=gEx (X1a xs at_ d at1 at2 7 a) os xs at_ d at2 r
def gE8 (os:Orc)(xs:List Int)(at_ d at1 at2:Int)(a r:ByteArray):Prop:=gEx (X1a xs at_ d at1 at2 8 a) os xs at_ d at2 r
def gE9 (os:Orc)(xs:List Int)(at_ d at1 at2 at3:Int)(a b r:ByteArray):Prop:=gEx (X2a xs at_ d at1 at2 at3 9 a b) os xs at_ d at3 r
def gE10 (os:Orc)(xs:List Int)(at_ d at1 at2 at3:Int)(a b r:ByteArray):Prop:=gEx (X2a xs at_ d at1 at2 at3 10 a b) os xs at_ d at3 r
def gE11 (os:Orc)(xs:List Int)(at_ d at1 at2:Int)(a r:ByteArray):Prop:=gEx (X1a xs at_ d at1 at2 11 a) os xs at_ d at2 r
def gE12 (os:Orc)(xs:List Int)(at_ d at1 at2:Int)(a r:ByteArray):Prop:=gEx (X1a xs at_ d at1 at2 12 a) os xs at_ d at2 r
def gE13 (os:Orc)(xs:List Int)(at_ d at1 at2:Int)(a r:ByteArray):Prop:=gEx (X1a xs at_ d at1 at2 13 a) os xs at_ d at2 r
def gE14 (os:Orc)(xs:List Int)(at_ d at1 at2:Int)(a r:ByteArray):Prop:=gEx (X1a xs at_ d at1 at2 14 a) os xs at_ d at2 r
def gE15 (os:Orc)(xs:List Int)(at_ d at1 at2:Int)(a r:ByteArray):Prop:=gEx (X1a xs at_ d at1 at2 15 a) os xs at_ d at2 r
def gE16 (os:Orc)(xs:List Int)(at_ d at1 at2:Int)(a r:ByteArray):Prop:=gEx (X1a xs at_ d at1 at2 16 a) os xs at_ d at2 r
def gE17 (os:Orc)(xs:List Int)(at_ d at1 at2:Int)(a r:ByteArray):Prop:=gEx (X1a xs at_ d at1 at2 17 a) os xs at_ d at2 r
def gE18 (os:Orc)(xs:List Int)(at_ d at1 at2 at3 at4 v w:Int)(a r:ByteArray):Prop:=gEx (X1c xs at_ d at1 at2 at3 at4 18 v w a) os xs at_ d at4 r
def gE19 (os:Orc)(xs:List Int)(at_ d at1 at2:Int)(a r:ByteArray):Prop:=gEx (X1a xs at_ d at1 at2 19 a) os xs at_ d at2 r
end
end Go.Proofs.YtpofhijgccocpaaGreatDoor
end
section
namespace Go.Proofs.YtpofhijgccocpaaGreatDoor
open Go Go.AS Go.TP
noncomputable abbrev zadm (xs:List Int) (at_:Int):=(True/\Wks [AV.ptr 1048577 [0,0] 0 0,i0 26] [AV.ptr 1048577 [0,0] 0 0,i0 26]/\hpL [eR 1048577 [0,0] 2 [AV.agg [L1 (List.map i0 xs),i0 at_]]]=hpL [eR 1048577 [0,0] 2 [AV.agg [L1 (List.map i0 xs),i0 at_]]])
noncomputable abbrev zaet (d:Int) (xs:List Int) (at1:Int):=(True/\Wks [AV.ptr 1048577 [0,0] 0 0,i0 (d+1)] [AV.ptr 1048577 [0,0] 0 0,i0 (d+1)]/\hpL [eR 1048577 [0,0] 2 [AV.agg [L1 (List.map i0 xs),i0 at1]]]=hpL [eR 1048577 [0,0] 2 [AV.agg [L1 (List.map i0 xs),i0 at1]]])
noncomputable abbrev zabS (xs:List Int) (at2:Int):=[eR 1048577 [0,0] 2 [AV.agg [L1 (List.map i0 xs),i0 at2]]]
noncomputable abbrev zauP:=[Value.string ⟨⟨[(97:UInt8),(108:UInt8),(108:UInt8),(40:UInt8),(41:UInt8)]⟩⟩,Value.string ⟨⟨[(109:UInt8),(97:UInt8),(115:UInt8),(116:UInt8),(101:UInt8),(114:UInt8),(40:UInt8),(41:UInt8)]⟩⟩,Value.string ⟨⟨[(110:UInt8),(111:UInt8),(110:UInt8),(101:UInt8),(40:UInt8),(41:UInt8)]⟩⟩]
noncomputable abbrev zauO:=[Value.string ⟨⟨[(32:UInt8),(97:UInt8),(110:UInt8),(100:UInt8),(32:UInt8)]⟩⟩,Value.string ⟨⟨[(38:UInt8)]⟩⟩]
noncomputable abbrev zaii (xs:List Int) (at3:Int):=[eR 1048577 [0,0] 2 [AV.agg [L1 (List.map i0 xs),i0 at3]]]
noncomputable abbrev zawx:=[Value.string ⟨⟨[(32:UInt8),(45:UInt8),(32:UInt8)]⟩⟩,Value.string ⟨⟨[(45:UInt8)]⟩⟩,Value.string ⟨⟨[(32:UInt8),(109:UInt8),(105:UInt8),(110:UInt8),(117:UInt8),(115:UInt8),(32:UInt8)]⟩⟩]
noncomputable abbrev zaww:=[Value.string ⟨⟨[(32:UInt8),(111:UInt8),(114:UInt8),(32:UInt8)]⟩⟩,Value.string ⟨⟨[(43:UInt8)]⟩⟩,Value.string ⟨⟨[(32:UInt8),(124:UInt8),(32:UInt8)]⟩⟩]
def zaE2:Orc:=Orc.alt 0 (HT (Orc.t (Orc.t (HF (HF (HF (HF (HF (Orc.f (Orc.t (Orc.alt 1 Orc.z)))))))))))
theorem zazr (xs:List Int)(at_ d:Int)(at1 at2:Int)(k v:Int)(r:ByteArray):gLaA zaE2 xs at_ d at1 at2 k v r=(let z1:=[eR 1048577 [0,0] 2 [AV.agg [L1 (List.map i0 xs),i0 at1]]];∃ (_:Unit),(zadm xs at_)/\decide (d>3)=true/\Yt4 (Yt (Yt (inR IntKind.i64 ((20:Int)+Int.tmod k (6:Int))=true/\decide ((20:Int)+Int.tmod k (6:Int)<(20:Int))=false/\((20:Int)+Int.tmod k (6:Int)==(0:Int))=false/\((20:Int)+Int.tmod k (6:Int)==(1:Int))=false/\((20:Int)+Int.tmod k (6:Int)==(2:Int))=false/\((20:Int)+Int.tmod k (6:Int)==(3:Int))=false/\((20:Int)+Int.tmod k (6:Int)==(4:Int))=false/\((20:Int)+Int.tmod k (6:Int)==(5:Int))=false/\((20:Int)+Int.tmod k (6:Int)==(6:Int))=false/\((20:Int)+Int.tmod k (6:Int)==(7:Int))=false/\((20:Int)+Int.tmod k (6:Int)==(8:Int))=false/\((20:Int)+Int.tmod k (6:Int)==(9:Int))=false/\((20:Int)+Int.tmod k (6:Int)==(10:Int))=false/\((20:Int)+Int.tmod k (6:Int)==(11:Int))=false/\((20:Int)+Int.tmod k (6:Int)==(12:Int))=false/\((20:Int)+Int.tmod k (6:Int)==(13:Int))=false/\((20:Int)+Int.tmod k (6:Int)==(14:Int))=false/\((20:Int)+Int.tmod k (6:Int)==(15:Int))=false/\((20:Int)+Int.tmod k (6:Int)==(16:Int))=false/\((20:Int)+Int.tmod k (6:Int)==(17:Int))=false/\((20:Int)+Int.tmod k (6:Int)==(18:Int))=false/\((20:Int)+Int.tmod k (6:Int)==(19:Int))=false/\((20:Int)+Int.tmod k (6:Int)==(20:Int))=true/\U1 [AV.ptr 1048577 [0,0] 0 0,i0 3] z1 ((decide ((0:Int)<=v/\v<3)&&(true&&List.all (zauP) zakj))=true/\Wk (s0 (List.getD (zab (zauP)) (Int.toNat v) ByteArray.empty)) (s0 r)/\SameH (hpL (zabS xs at2)) (hpL (zabS xs at2))))))):=by kernel_rfl
def zaEY:Orc:=HT (Orc.t (Orc.t (HF (HF (HF (HF (HF (Orc.f (Orc.f Orc.z)))))))))
theorem zazj (xs:List Int)(at_ d:Int)(at1 at2 k:Int)(s:ByteArray):gLnA zaEY xs at_ d at1 at2 k s=(let z1:=[eR 1048577 [0,0] 2 [AV.agg [L1 (List.map i0 xs),i0 at1]]];∃ (_:Unit),(zadm xs at_)/\decide (d>3)=true/\Yt4 (Yt (Yt (inR IntKind.i64 ((20:Int)+Int.tmod k (6:Int))=true/\decide ((20:Int)+Int.tmod k (6:Int)<(20:Int))=false/\((20:Int)+Int.tmod k (6:Int)==(0:Int))=false/\((20:Int)+Int.tmod k (6:Int)==(1:Int))=false/\((20:Int)+Int.tmod k (6:Int)==(2:Int))=false/\((20:Int)+Int.tmod k (6:Int)==(3:Int))=false/\((20:Int)+Int.tmod k (6:Int)==(4:Int))=false/\((20:Int)+Int.tmod k (6:Int)==(5:Int))=false/\((20:Int)+Int.tmod k (6:Int)==(6:Int))=false/\((20:Int)+Int.tmod k (6:Int)==(7:Int))=false/\((20:Int)+Int.tmod k (6:Int)==(8:Int))=false/\((20:Int)+Int.tmod k (6:Int)==(9:Int))=false/\((20:Int)+Int.tmod k (6:Int)==(10:Int))=false/\((20:Int)+Int.tmod k (6:Int)==(11:Int))=false/\((20:Int)+Int.tmod k (6:Int)==(12:Int))=false/\((20:Int)+Int.tmod k (6:Int)==(13:Int))=false/\((20:Int)+Int.tmod k (6:Int)==(14:Int))=false/\((20:Int)+Int.tmod k (6:Int)==(15:Int))=false/\((20:Int)+Int.tmod k (6:Int)==(16:Int))=false/\((20:Int)+Int.tmod k (6:Int)==(17:Int))=false/\((20:Int)+Int.tmod k (6:Int)==(18:Int))=false/\((20:Int)+Int.tmod k (6:Int)==(19:Int))=false/\((20:Int)+Int.tmod k (6:Int)==(20:Int))=false/\U1 [AV.ptr 1048577 [0,0] 0 0] z1 (Wk (s0 s) (s0 s)/\SameH (hpL (zabS xs at2)) (hpL (zabS xs at2))))))):=by kernel_rfl
def zaE1:Orc:=Orc.alt 0 (HF (Orc.f (Orc.t (HF (HF (HF (HF (HF (Orc.f (Orc.t (Orc.alt 1 Orc.z)))))))))))
theorem zazp (xs:List Int)(at_ d:Int)(at1 at2:Int)(k v:Int)(r:ByteArray):gLaB zaE1 xs at_ d at1 at2 k v r=(let z1:=[eR 1048577 [0,0] 2 [AV.agg [L1 (List.map i0 xs),i0 at1]]];∃ (_:Unit),(zadm xs at_)/\decide (d>3)=false/\Nf4 (decide (at1>20)=true/\Yt (inR IntKind.i64 ((20:Int)+Int.tmod k (6:Int))=true/\decide ((20:Int)+Int.tmod k (6:Int)<(20:Int))=false/\((20:Int)+Int.tmod k (6:Int)==(0:Int))=false/\((20:Int)+Int.tmod k (6:Int)==(1:Int))=false/\((20:Int)+Int.tmod k (6:Int)==(2:Int))=false/\((20:Int)+Int.tmod k (6:Int)==(3:Int))=false/\((20:Int)+Int.tmod k (6:Int)==(4:Int))=false/\((20:Int)+Int.tmod k (6:Int)==(5:Int))=false/\((20:Int)+Int.tmod k (6:Int)==(6:Int))=false/\((20:Int)+Int.tmod k (6:Int)==(7:Int))=false/\((20:Int)+Int.tmod k (6:Int)==(8:Int))=false/\((20:Int)+Int.tmod k (6:Int)==(9:Int))=false/\((20:Int)+Int.tmod k (6:Int)==(10:Int))=false/\((20:Int)+Int.tmod k (6:Int)==(11:Int))=false/\((20:Int)+Int.tmod k (6:Int)==(12:Int))=false/\((20:Int)+Int.tmod k (6:Int)==(13:Int))=false/\((20:Int)+Int.tmod k (6:Int)==(14:Int))=false/\((20:Int)+Int.tmod k (6:Int)==(15:Int))=false/\((20:Int)+Int.tmod k (6:Int)==(16:Int))=false/\((20:Int)+Int.tmod k (6:Int)==(17:Int))=false/\((20:Int)+Int.tmod k (6:Int)==(18:Int))=false/\((20:Int)+Int.tmod k (6:Int)==(19:Int))=false/\((20:Int)+Int.tmod k (6:Int)==(20:Int))=true/\U1 [AV.ptr 1048577 [0,0] 0 0,i0 3] z1 ((decide ((0:Int)<=v/\v<3)&&(true&&List.all (zauP) zakj))=true/\Wk (s0 (List.getD (zab (zauP)) (Int.toNat v) ByteArray.empty)) (s0 r)/\SameH (hpL (zabS xs at2)) (hpL (zabS xs at2)))))):=by kernel_rfl
def zaEX:Orc:=HF (Orc.f (Orc.t (HF (HF (HF (HF (HF (Orc.f (Orc.f Orc.z)))))))))
theorem zazh (xs:List Int)(at_ d:Int)(at1 at2 k:Int)(s:ByteArray):gLnB zaEX xs at_ d at1 at2 k s=(let z1:=[eR 1048577 [0,0] 2 [AV.agg [L1 (List.map i0 xs),i0 at1]]];∃ (_:Unit),(zadm xs at_)/\decide (d>3)=false/\Nf4 (decide (at1>20)=true/\Yt (inR IntKind.i64 ((20:Int)+Int.tmod k (6:Int))=true/\decide ((20:Int)+Int.tmod k (6:Int)<(20:Int))=false/\((20:Int)+Int.tmod k (6:Int)==(0:Int))=false/\((20:Int)+Int.tmod k (6:Int)==(1:Int))=false/\((20:Int)+Int.tmod k (6:Int)==(2:Int))=false/\((20:Int)+Int.tmod k (6:Int)==(3:Int))=false/\((20:Int)+Int.tmod k (6:Int)==(4:Int))=false/\((20:Int)+Int.tmod k (6:Int)==(5:Int))=false/\((20:Int)+Int.tmod k (6:Int)==(6:Int))=false/\((20:Int)+Int.tmod k (6:Int)==(7:Int))=false/\((20:Int)+Int.tmod k (6:Int)==(8:Int))=false/\((20:Int)+Int.tmod k (6:Int)==(9:Int))=false/\((20:Int)+Int.tmod k (6:Int)==(10:Int))=false/\((20:Int)+Int.tmod k (6:Int)==(11:Int))=false/\((20:Int)+Int.tmod k (6:Int)==(12:Int))=false/\((20:Int)+Int.tmod k (6:Int)==(13:Int))=false/\((20:Int)+Int.tmod k (6:Int)==(14:Int))=false/\((20:Int)+Int.tmod k (6:Int)==(15:Int))=false/\((20:Int)+Int.tmod k (6:Int)==(16:Int))=false/\((20:Int)+Int.tmod k (6:Int)==(17:Int))=false/\((20:Int)+Int.tmod k (6:Int)==(18:Int))=false/\((20:Int)+Int.tmod k (6:Int)==(19:Int))=false/\((20:Int)+Int.tmod k (6:Int)==(20:Int))=false/\U1 [AV.ptr 1048577 [0,0] 0 0] z1 (Wk (s0 s) (s0 s)/\SameH (hpL (zabS xs at2)) (hpL (zabS xs at2)))))):=by kernel_rfl
def zaE0:Orc:=Orc.alt 0 (HF (HF (HF (HF (HF (HF (Orc.f (Orc.f (Orc.f (Orc.t (Orc.alt 1 Orc.z)))))))))))
theorem zazn (xs:List Int)(at_ d:Int)(at1 at2:Int)(k v:Int)(r:ByteArray):gLaC zaE0 xs at_ d at1 at2 k v r=(let z1:=[eR 1048577 [0,0] 2 [AV.agg [L1 (List.map i0 xs),i0 at1]]];∃ (_:Unit),(zadm xs at_)/\decide (d>3)=false/\Nf4 (decide (at1>20)=false/\decide (k<20)=false/\(k==0)=false/\(k==1)=false/\(k==2)=false/\(k==3)=false/\(k==4)=false/\(k==5)=false/\(k==6)=false/\(k==7)=false/\(k==8)=false/\(k==9)=false/\(k==10)=false/\(k==11)=false/\(k==12)=false/\(k==13)=false/\(k==14)=false/\(k==15)=false/\(k==16)=false/\(k==17)=false/\(k==18)=false/\(k==19)=false/\(k==20)=true/\U1 [AV.ptr 1048577 [0,0] 0 0,i0 3] z1 ((decide ((0:Int)<=v/\v<3)&&(true&&List.all (zauP) zakj))=true/\Wk (s0 (List.getD (zab (zauP)) (Int.toNat v) ByteArray.empty)) (s0 r)/\SameH (hpL (zabS xs at2)) (hpL (zabS xs at2))))):=by kernel_rfl
def zaEW:Orc:=HF (HF (HF (HF (HF (HF (Orc.f (Orc.f (Orc.f (Orc.f Orc.z)))))))))
theorem zazf (xs:List Int)(at_ d:Int)(at1 at2 k:Int)(s:ByteArray):gLnC zaEW xs at_ d at1 at2 k s=(let z1:=[eR 1048577 [0,0] 2 [AV.agg [L1 (List.map i0 xs),i0 at1]]];∃ (_:Unit),(zadm xs at_)/\decide (d>3)=false/\Nf4 (decide (at1>20)=false/\decide (k<20)=false/\(k==0)=false/\(k==1)=false/\(k==2)=false/\(k==3)=false/\(k==4)=false/\(k==5)=false/\(k==6)=false/\(k==7)=false/\(k==8)=false/\(k==9)=false/\(k==10)=false/\(k==11)=false/\(k==12)=false/\(k==13)=false/\(k==14)=false/\(k==15)=false/\(k==16)=false/\(k==17)=false/\(k==18)=false/\(k==19)=false/\(k==20)=false/\U1 [AV.ptr 1048577 [0,0] 0 0] z1 (Wk (s0 s) (s0 s)/\SameH (hpL (zabS xs at2)) (hpL (zabS xs at2))))):=by kernel_rfl
def ogE0:Orc:=Orc.alt 0 (HF (Orc.f (Orc.f (Orc.t (Orc.alt 0 (Orc.t (Orc.alt 1 (Orc.alt 1 Orc.z))))))))
theorem zaC0 (xs:List Int)(at_ d:Int)(at1 at2:Int)(at3 at4 v:Int)(a b r:ByteArray):gE0 ogE0 xs at_ d at1 at2 at3 at4 v a b r=(let z1:=AV.ptr 1048577 [0,0] 0 0;let z2:=(hpL [eR 1048577 [0,0] 2 [AV.agg [L1 (List.map i0 xs),i0 at4]]]);∃ (_:Unit),(zadm xs at_)/\decide (d>3)=false/\Nf4 (decide (at1>20)=false/\Yt (inR IntKind.i64 (d+1)=true/\∃ (_:Unit),(zaet d xs at1)/\Yt (U1 [z1,i0 3] (zabS xs at2) ((decide ((0:Int)<=v/\v<3)&&(true&&List.all (zaww) zakj))=true/\decide (ByteArray.size a+ByteArray.size (List.getD (zab (zaww)) (Int.toNat v) ByteArray.empty)<=9223372036854775807)=true/\inR IntKind.i64 (d+1)=true/\U1 [z1,i0 (d+1)] (zaii xs at3) (decide (ByteArray.size (a++List.getD (zab (zaww)) (Int.toNat v) ByteArray.empty)+ByteArray.size b<=9223372036854775807)=true/\Wk (s0 (a++List.getD (zab (zaww)) (Int.toNat v) ByteArray.empty++b)) (s0 r)/\SameH z2 z2)))))):=by kernel_rfl
def ogE1:Orc:=Orc.alt 0 (HF (Orc.f (Orc.f (Orc.t (Orc.alt 0 (Orc.f (Orc.t (Orc.alt 1 (Orc.alt 1 Orc.z)))))))))
theorem zaCY (xs:List Int)(at_ d:Int)(at1 at2:Int)(at3 at4 v:Int)(a b r:ByteArray):gE1 ogE1 xs at_ d at1 at2 at3 at4 v a b r=(let z1:=AV.ptr 1048577 [0,0] 0 0;let z2:=(hpL [eR 1048577 [0,0] 2 [AV.agg [L1 (List.map i0 xs),i0 at4]]]);∃ (_:Unit),(zadm xs at_)/\decide (d>3)=false/\Nf4 (decide (at1>20)=false/\Yt (inR IntKind.i64 (d+1)=true/\∃ (_:Unit),(zaet d xs at1)/\Nf (Yt (U1 [z1,i0 3] (zabS xs at2) ((decide ((0:Int)<=v/\v<3)&&(true&&List.all (zawx) zakj))=true/\decide (ByteArray.size a+ByteArray.size (List.getD (zab (zawx)) (Int.toNat v) ByteArray.empty)<=9223372036854775807)=true/\inR IntKind.i64 (d+1)=true/\U1 [z1,i0 (d+1)] (zaii xs at3) (decide (ByteArray.size (a++List.getD (zab (zawx)) (Int.toNat v) ByteArray.empty)+ByteArray.size b<=9223372036854775807)=true/\Wk (s0 (a++List.getD (zab (zawx)) (Int.toNat v) ByteArray.empty++b)) (s0 r)/\SameH z2 z2))))))):=by kernel_rfl
def ogE2:Orc:=Orc.alt 0 (HF (Orc.f (Orc.f (Orc.t (Orc.alt 0 (Orc.f (Orc.f (Orc.t (Orc.t (Orc.alt 1 (Orc.alt 1 Orc.z)))))))))))
theorem zaCW (xs:List Int)(at_ d:Int)(at1 at2:Int)(at3 at4 v:Int)(a b r:ByteArray):gE2 ogE2 xs at_ d at1 at2 at3 at4 v a b r=(let z1:=[(40:UInt8)];let z2:=AV.ptr 1048577 [0,0] 0 0;let z3:=(hpL [eR 1048577 [0,0] 2 [AV.agg [L1 (List.map i0 xs),i0 at4]]]);let z4:=[(41:UInt8)];let z5:=(zab (zauO));∃ (_:Unit),(zadm xs at_)/\decide (d>3)=false/\Nf4 (decide (at1>20)=false/\Yt (inR IntKind.i64 (d+1)=true/\∃ (_:Unit),(zaet d xs at1)/\Nf (Nf (Yt (Yt (decide (1+ByteArray.size a<=9223372036854775807)=true/\decide (ByteArray.size (⟨⟨z1⟩⟩++a)+1<=9223372036854775807)=true/\U1 [z2,i0 2] (zabS xs at2) ((decide ((0:Int)<=v/\v<2)&&(true&&List.all (zauO) zakj))=true/\decide (ByteArray.size (⟨⟨z1⟩⟩++a++⟨⟨z4⟩⟩)+ByteArray.size (List.getD z5 (Int.toNat v) ByteArray.empty)<=9223372036854775807)=true/\decide (ByteArray.size (⟨⟨z1⟩⟩++a++⟨⟨z4⟩⟩++List.getD z5 (Int.toNat v) ByteArray.empty)+1<=9223372036854775807)=true/\inR IntKind.i64 (d+1)=true/\U1 [z2,i0 (d+1)] (zaii xs at3) (decide (ByteArray.size (⟨⟨z1⟩⟩++a++⟨⟨z4⟩⟩++List.getD z5 (Int.toNat v) ByteArray.empty++⟨⟨z1⟩⟩)+ByteArray.size b<=9223372036854775807)=true/\decide (ByteArray.size (⟨⟨z1⟩⟩++a++⟨⟨z4⟩⟩++List.getD z5 (Int.toNat v) ByteArray.empty++⟨⟨z1⟩⟩++b)+1<=9223372036854775807)=true/\Wk (s0 (⟨⟨z1⟩⟩++a++⟨⟨z4⟩⟩++List.getD z5 (Int.toNat v) ByteArray.empty++⟨⟨z1⟩⟩++b++⟨⟨z4⟩⟩)) (s0 r)/\SameH z3 z3))))))))):=by kernel_rfl
def ogE3:Orc:=Orc.alt 0 (HF (Orc.f (Orc.f (Orc.t (Orc.alt 0 (Orc.f (Orc.f (Orc.f (Orc.t (Orc.alt 1 (Orc.alt 1 Orc.z)))))))))))
theorem zaCU (xs:List Int)(at_ d:Int)(at1 at2:Int)(at3 at4 v:Int)(a b r:ByteArray):gE3 ogE3 xs at_ d at1 at2 at3 at4 v a b r=(let z1:=[(40:UInt8)];let z2:=AV.ptr 1048577 [0,0] 0 0;let z3:=(hpL [eR 1048577 [0,0] 2 [AV.agg [L1 (List.map i0 xs),i0 at4]]]);let z4:=[(41:UInt8)];let z5:=(zab (zauO));∃ (_:Unit),(zadm xs at_)/\decide (d>3)=false/\Nf4 (decide (at1>20)=false/\Yt (inR IntKind.i64 (d+1)=true/\∃ (_:Unit),(zaet d xs at1)/\Nf (Nf (Nf (Yt (decide (1+ByteArray.size a<=9223372036854775807)=true/\decide (ByteArray.size (⟨⟨z1⟩⟩++a)+1<=9223372036854775807)=true/\U1 [z2,i0 2] (zabS xs at2) ((decide ((0:Int)<=v/\v<2)&&(true&&List.all (zauO) zakj))=true/\decide (ByteArray.size (⟨⟨z1⟩⟩++a++⟨⟨z4⟩⟩)+ByteArray.size (List.getD z5 (Int.toNat v) ByteArray.empty)<=9223372036854775807)=true/\decide (ByteArray.size (⟨⟨z1⟩⟩++a++⟨⟨z4⟩⟩++List.getD z5 (Int.toNat v) ByteArray.empty)+1<=9223372036854775807)=true/\inR IntKind.i64 (d+1)=true/\U1 [z2,i0 (d+1)] (zaii xs at3) (decide (ByteArray.size (⟨⟨z1⟩⟩++a++⟨⟨z4⟩⟩++List.getD z5 (Int.toNat v) ByteArray.empty++⟨⟨z1⟩⟩)+ByteArray.size b<=9223372036854775807)=true/\decide (ByteArray.size (⟨⟨z1⟩⟩++a++⟨⟨z4⟩⟩++List.getD z5 (Int.toNat v) ByteArray.empty++⟨⟨z1⟩⟩++b)+1<=9223372036854775807)=true/\Wk (s0 (⟨⟨z1⟩⟩++a++⟨⟨z4⟩⟩++List.getD z5 (Int.toNat v) ByteArray.empty++⟨⟨z1⟩⟩++b++⟨⟨z4⟩⟩)) (s0 r)/\SameH z3 z3))))))))):=by kernel_rfl
def ogE4:Orc:=Orc.alt 0 (HF (Orc.f (Orc.f (Orc.t (HF (Orc.t (Orc.alt 1 Orc.z)))))))
theorem zaCS (xs:List Int)(at_ d:Int)(at1 at2:Int)(at3 v:Int)(a r:ByteArray):gE4 ogE4 xs at_ d at1 at2 at3 v a r=(let z1:=[Value.string ⟨⟨[(110:UInt8),(111:UInt8),(116:UInt8),(32:UInt8)]⟩⟩,Value.string ⟨⟨[(33:UInt8)]⟩⟩];∃ (_:Unit),(zadm xs at_)/\decide (d>3)=false/\Nf4 (decide (at1>20)=false/\Yt (inR IntKind.i64 (d+1)=true/\∃ (_:Unit),(zaet d xs at1)/\Nf4 (Yt (U1 [AV.ptr 1048577 [0,0] 0 0,i0 2] (zabS xs at2) ((decide ((0:Int)<=v/\v<2)&&(true&&List.all z1 zakj))=true/\decide (ByteArray.size (List.getD (zab z1) (Int.toNat v) ByteArray.empty)+1<=9223372036854775807)=true/\decide (ByteArray.size (List.getD (zab z1) (Int.toNat v) ByteArray.empty++⟨⟨[(40:UInt8)]⟩⟩)+ByteArray.size a<=9223372036854775807)=true/\decide (ByteArray.size (List.getD (zab z1) (Int.toNat v) ByteArray.empty++⟨⟨[(40:UInt8)]⟩⟩++a)+1<=9223372036854775807)=true/\Wk (s0 (List.getD (zab z1) (Int.toNat v) ByteArray.empty++⟨⟨[(40:UInt8)]⟩⟩++a++⟨⟨[(41:UInt8)]⟩⟩)) (s0 r)/\SameH (hpL (zaii xs at3)) (hpL (zaii xs at3)))))))):=by kernel_rfl
def ogE5:Orc:=HF (Orc.f (Orc.f (Orc.t (HF (Orc.f (Orc.t (Orc.t Orc.z)))))))
theorem zaCQ (xs:List Int)(at_ d:Int)(at1 at2:Int)(a r:ByteArray):gE5 ogE5 xs at_ d at1 at2 a r=(let z1:=[(58:UInt8),(58:UInt8),(40:UInt8)];∃ (_:Unit),(zadm xs at_)/\decide (d>3)=false/\Nf4 (decide (at1>20)=false/\Yt (inR IntKind.i64 (d+1)=true/\∃ (_:Unit),(zaet d xs at1)/\Nf4 (Nf (Yt (Yt (decide (3+ByteArray.size a<=9223372036854775807)=true/\decide (ByteArray.size (⟨⟨z1⟩⟩++a)+1<=9223372036854775807)=true/\Wk (s0 (⟨⟨z1⟩⟩++a++⟨⟨[(41:UInt8)]⟩⟩)) (s0 r)/\SameH (hpL (zabS xs at2)) (hpL (zabS xs at2))))))))):=by kernel_rfl
def ogE6:Orc:=HF (Orc.f (Orc.f (Orc.t (HF (Orc.f (Orc.f (Orc.t Orc.z)))))))
theorem zaCO (xs:List Int)(at_ d:Int)(at1 at2:Int)(a r:ByteArray):gE6 ogE6 xs at_ d at1 at2 a r=(let z1:=[(58:UInt8),(58:UInt8),(40:UInt8)];∃ (_:Unit),(zadm xs at_)/\decide (d>3)=false/\Nf4 (decide (at1>20)=false/\Yt (inR IntKind.i64 (d+1)=true/\∃ (_:Unit),(zaet d xs at1)/\Nf4 (Nf (Nf (Yt (decide (3+ByteArray.size a<=9223372036854775807)=true/\decide (ByteArray.size (⟨⟨z1⟩⟩++a)+1<=9223372036854775807)=true/\Wk (s0 (⟨⟨z1⟩⟩++a++⟨⟨[(41:UInt8)]⟩⟩)) (s0 r)/\SameH (hpL (zabS xs at2)) (hpL (zabS xs at2))))))))):=by kernel_rfl
def ogE7:Orc:=HF (Orc.f (Orc.f (Orc.t (HF (Orc.f (Orc.f (Orc.f (Orc.t (Orc.t Orc.z)))))))))
theorem zaCM (xs:List Int)(at_ d:Int)(at1 at2:Int)(a r:ByteArray):gE7 ogE7 xs at_ d at1 at2 a r=(∃ (_:Unit),(zadm xs at_)/\decide (d>3)=false/\Nf4 (decide (at1>20)=false/\Yt (inR IntKind.i64 (d+1)=true/\∃ (_:Unit),(zaet d xs at1)/\Nf4 (Nf (Nf (Nf (Yt (Yt (decide (1+ByteArray.size a<=9223372036854775807)=true/\decide (ByteArray.size (⟨⟨[(40:UInt8)]⟩⟩++a)+3<=9223372036854775807)=true/\Wk (s0 (⟨⟨[(40:UInt8)]⟩⟩++a++⟨⟨[(41:UInt8),(58:UInt8),(58:UInt8)]⟩⟩)) (s0 r)/\SameH (hpL (zabS xs at2)) (hpL (zabS xs at2))))))))))):=by kernel_rfl
def ogE8:Orc:=HF (Orc.f (Orc.f (Orc.t (HF (HF (Orc.t Orc.z))))))
theorem zaCK (xs:List Int)(at_ d:Int)(at1 at2:Int)(a r:ByteArray):gE8 ogE8 xs at_ d at1 at2 a r=(∃ (_:Unit),(zadm xs at_)/\decide (d>3)=false/\Nf4 (decide (at1>20)=false/\Yt (inR IntKind.i64 (d+1)=true/\∃ (_:Unit),(zaet d xs at1)/\Nf4 (Nf4 (Yt (decide (1+ByteArray.size a<=9223372036854775807)=true/\decide (ByteArray.size (⟨⟨[(40:UInt8)]⟩⟩++a)+3<=9223372036854775807)=true/\Wk (s0 (⟨⟨[(40:UInt8)]⟩⟩++a++⟨⟨[(41:UInt8),(58:UInt8),(58:UInt8)]⟩⟩)) (s0 r)/\SameH (hpL (zabS xs at2)) (hpL (zabS xs at2)))))))):=by kernel_rfl
def ogE9:Orc:=HF (Orc.f (Orc.f (Orc.t (Orc.alt 0 (HF (HF (Orc.f (Orc.t (Orc.alt 1 Orc.z)))))))))
theorem zaCI (xs:List Int)(at_ d:Int)(at1 at2 at3:Int)(a b r:ByteArray):gE9 ogE9 xs at_ d at1 at2 at3 a b r=(let z1:=[(41:UInt8),(58:UInt8),(58:UInt8),(40:UInt8)];let z2:=[AV.ptr 1048577 [0,0] 0 0,i0 (d+1)];let z3:=[(40:UInt8)];∃ (_:Unit),(zadm xs at_)/\decide (d>3)=false/\Nf4 (decide (at1>20)=false/\Yt (inR IntKind.i64 (d+1)=true/\∃ (_:Unit),(zaet d xs at1)/\Nf4 (Nf4 (Nf (Yt (decide (1+ByteArray.size a<=9223372036854775807)=true/\decide (ByteArray.size (⟨⟨z3⟩⟩++a)+4<=9223372036854775807)=true/\inR IntKind.i64 (d+1)=true/\U1 z2 (zabS xs at2) (decide (ByteArray.size (⟨⟨z3⟩⟩++a++⟨⟨z1⟩⟩)+ByteArray.size b<=9223372036854775807)=true/\decide (ByteArray.size (⟨⟨z3⟩⟩++a++⟨⟨z1⟩⟩++b)+1<=9223372036854775807)=true/\Wk (s0 (⟨⟨z3⟩⟩++a++⟨⟨z1⟩⟩++b++⟨⟨[(41:UInt8)]⟩⟩)) (s0 r)/\SameH (hpL (zaii xs at3)) (hpL (zaii xs at3)))))))))):=by kernel_rfl
def zaFj:Orc:=HF (Orc.f (Orc.f (Orc.t (Orc.alt 0 (HF (HF (Orc.f (Orc.f (Orc.t (Orc.alt 1 Orc.z))))))))))
theorem zaAb (xs:List Int)(at_ d:Int)(at1 at2 at3:Int)(a b r:ByteArray):gE10 zaFj xs at_ d at1 at2 at3 a b r=(let z1:=[(41:UInt8),(46:UInt8),(46:UInt8),(40:UInt8)];let z2:=[AV.ptr 1048577 [0,0] 0 0,i0 (d+1)];let z3:=[(40:UInt8)];∃ (_:Unit),(zadm xs at_)/\decide (d>3)=false/\Nf4 (decide (at1>20)=false/\Yt (inR IntKind.i64 (d+1)=true/\∃ (_:Unit),(zaet d xs at1)/\Nf4 (Nf4 (Nf (Nf (Yt (decide (1+ByteArray.size a<=9223372036854775807)=true/\decide (ByteArray.size (⟨⟨z3⟩⟩++a)+4<=9223372036854775807)=true/\inR IntKind.i64 (d+1)=true/\U1 z2 (zabS xs at2) (decide (ByteArray.size (⟨⟨z3⟩⟩++a++⟨⟨z1⟩⟩)+ByteArray.size b<=9223372036854775807)=true/\decide (ByteArray.size (⟨⟨z3⟩⟩++a++⟨⟨z1⟩⟩++b)+1<=9223372036854775807)=true/\Wk (s0 (⟨⟨z3⟩⟩++a++⟨⟨z1⟩⟩++b++⟨⟨[(41:UInt8)]⟩⟩)) (s0 r)/\SameH (hpL (zaii xs at3)) (hpL (zaii xs at3))))))))))):=by kernel_rfl
def zaFi:Orc:=HF (Orc.f (Orc.f (Orc.t (HF (HF (Orc.f (Orc.f (Orc.f (Orc.t Orc.z)))))))))
theorem zaA (xs:List Int)(at_ d:Int)(at1 at2:Int)(a r:ByteArray):gE11 zaFi xs at_ d at1 at2 a r=(let z1:=[(112:UInt8),(97:UInt8),(114:UInt8),(101:UInt8),(110:UInt8),(116:UInt8),(115:UInt8),(40:UInt8)];∃ (_:Unit),(zadm xs at_)/\decide (d>3)=false/\Nf4 (decide (at1>20)=false/\Yt (inR IntKind.i64 (d+1)=true/\∃ (_:Unit),(zaet d xs at1)/\Nf4 (Nf4 (Nf (Nf (Nf (Yt (decide (8+ByteArray.size a<=9223372036854775807)=true/\decide (ByteArray.size (⟨⟨z1⟩⟩++a)+1<=9223372036854775807)=true/\Wk (s0 (⟨⟨z1⟩⟩++a++⟨⟨[(41:UInt8)]⟩⟩)) (s0 r)/\SameH (hpL (zabS xs at2)) (hpL (zabS xs at2))))))))))):=by kernel_rfl
def zaFh:Orc:=HF (Orc.f (Orc.f (Orc.t (HF (HF (HF (Orc.t Orc.z)))))))
theorem zaz8 (xs:List Int)(at_ d:Int)(at1 at2:Int)(a r:ByteArray):gE12 zaFh xs at_ d at1 at2 a r=(let z1:=[(99:UInt8),(104:UInt8),(105:UInt8),(108:UInt8),(100:UInt8),(114:UInt8),(101:UInt8),(110:UInt8),(40:UInt8),(32:UInt8)];∃ (_:Unit),(zadm xs at_)/\decide (d>3)=false/\Nf4 (decide (at1>20)=false/\Yt (inR IntKind.i64 (d+1)=true/\∃ (_:Unit),(zaet d xs at1)/\Nf4 (Nf4 (Nf4 (Yt (decide (10+ByteArray.size a<=9223372036854775807)=true/\decide (ByteArray.size (⟨⟨z1⟩⟩++a)+2<=9223372036854775807)=true/\Wk (s0 (⟨⟨z1⟩⟩++a++⟨⟨[(32:UInt8),(41:UInt8)]⟩⟩)) (s0 r)/\SameH (hpL (zabS xs at2)) (hpL (zabS xs at2))))))))):=by kernel_rfl
def zaFg:Orc:=HF (Orc.f (Orc.f (Orc.t (HF (HF (HF (Orc.f (Orc.t Orc.z))))))))
theorem zaz6 (xs:List Int)(at_ d:Int)(at1 at2:Int)(a r:ByteArray):gE13 zaFg xs at_ d at1 at2 a r=(let z1:=[(97:UInt8),(110:UInt8),(99:UInt8),(101:UInt8),(115:UInt8),(116:UInt8),(111:UInt8),(114:UInt8),(115:UInt8),(40:UInt8)];∃ (_:Unit),(zadm xs at_)/\decide (d>3)=false/\Nf4 (decide (at1>20)=false/\Yt (inR IntKind.i64 (d+1)=true/\∃ (_:Unit),(zaet d xs at1)/\Nf4 (Nf4 (Nf4 (Nf (Yt (decide (10+ByteArray.size a<=9223372036854775807)=true/\decide (ByteArray.size (⟨⟨z1⟩⟩++a)+1<=9223372036854775807)=true/\Wk (s0 (⟨⟨z1⟩⟩++a++⟨⟨[(41:UInt8)]⟩⟩)) (s0 r)/\SameH (hpL (zabS xs at2)) (hpL (zabS xs at2)))))))))):=by kernel_rfl
def zaFf:Orc:=HF (Orc.f (Orc.f (Orc.t (HF (HF (HF (Orc.f (Orc.f (Orc.t Orc.z)))))))))
theorem zaz4 (xs:List Int)(at_ d:Int)(at1 at2:Int)(a r:ByteArray):gE14 zaFf xs at_ d at1 at2 a r=(let z1:=[(100:UInt8),(101:UInt8),(115:UInt8),(99:UInt8),(101:UInt8),(110:UInt8),(100:UInt8),(97:UInt8),(110:UInt8),(116:UInt8),(115:UInt8),(40:UInt8)];∃ (_:Unit),(zadm xs at_)/\decide (d>3)=false/\Nf4 (decide (at1>20)=false/\Yt (inR IntKind.i64 (d+1)=true/\∃ (_:Unit),(zaet d xs at1)/\Nf4 (Nf4 (Nf4 (Nf (Nf (Yt (decide (12+ByteArray.size a<=9223372036854775807)=true/\decide (ByteArray.size (⟨⟨z1⟩⟩++a)+1<=9223372036854775807)=true/\Wk (s0 (⟨⟨z1⟩⟩++a++⟨⟨[(41:UInt8)]⟩⟩)) (s0 r)/\SameH (hpL (zabS xs at2)) (hpL (zabS xs at2))))))))))):=by kernel_rfl
def zaFe:Orc:=HF (Orc.f (Orc.f (Orc.t (HF (HF (HF (Orc.f (Orc.f (Orc.f (Orc.t (Orc.t Orc.z)))))))))))
theorem zaz2 (xs:List Int)(at_ d:Int)(at1 at2:Int)(a r:ByteArray):gE15 zaFe xs at_ d at1 at2 a r=(let z1:=[(104:UInt8),(101:UInt8),(97:UInt8),(100:UInt8),(115:UInt8),(40:UInt8)];∃ (_:Unit),(zadm xs at_)/\decide (d>3)=false/\Nf4 (decide (at1>20)=false/\Yt (inR IntKind.i64 (d+1)=true/\∃ (_:Unit),(zaet d xs at1)/\Nf4 (Nf4 (Nf4 (Nf (Nf (Nf (Yt (Yt (decide (6+ByteArray.size a<=9223372036854775807)=true/\decide (ByteArray.size (⟨⟨z1⟩⟩++a)+1<=9223372036854775807)=true/\Wk (s0 (⟨⟨z1⟩⟩++a++⟨⟨[(41:UInt8)]⟩⟩)) (s0 r)/\SameH (hpL (zabS xs at2)) (hpL (zabS xs at2))))))))))))):=by kernel_rfl
def zaFd:Orc:=HF (Orc.f (Orc.f (Orc.t (HF (HF (HF (HF (Orc.t Orc.z))))))))
theorem zaz0 (xs:List Int)(at_ d:Int)(at1 at2:Int)(a r:ByteArray):gE16 zaFd xs at_ d at1 at2 a r=(let z1:=[(104:UInt8),(101:UInt8),(97:UInt8),(100:UInt8),(115:UInt8),(40:UInt8)];∃ (_:Unit),(zadm xs at_)/\decide (d>3)=false/\Nf4 (decide (at1>20)=false/\Yt (inR IntKind.i64 (d+1)=true/\∃ (_:Unit),(zaet d xs at1)/\Nf4 (Nf4 (Nf4 (Nf4 (Yt (decide (6+ByteArray.size a<=9223372036854775807)=true/\decide (ByteArray.size (⟨⟨z1⟩⟩++a)+1<=9223372036854775807)=true/\Wk (s0 (⟨⟨z1⟩⟩++a++⟨⟨[(41:UInt8)]⟩⟩)) (s0 r)/\SameH (hpL (zabS xs at2)) (hpL (zabS xs at2)))))))))):=by kernel_rfl
def zaFc:Orc:=HF (Orc.f (Orc.f (Orc.t (HF (HF (HF (HF (Orc.f (Orc.t Orc.z)))))))))
theorem zazY (xs:List Int)(at_ d:Int)(at1 at2:Int)(a r:ByteArray):gE17 zaFc xs at_ d at1 at2 a r=(let z1:=[(114:UInt8),(111:UInt8),(111:UInt8),(116:UInt8),(115:UInt8),(40:UInt8)];∃ (_:Unit),(zadm xs at_)/\decide (d>3)=false/\Nf4 (decide (at1>20)=false/\Yt (inR IntKind.i64 (d+1)=true/\∃ (_:Unit),(zaet d xs at1)/\Nf4 (Nf4 (Nf4 (Nf4 (Nf (Yt (decide (6+ByteArray.size a<=9223372036854775807)=true/\decide (ByteArray.size (⟨⟨z1⟩⟩++a)+1<=9223372036854775807)=true/\Wk (s0 (⟨⟨z1⟩⟩++a++⟨⟨[(41:UInt8)]⟩⟩)) (s0 r)/\SameH (hpL (zabS xs at2)) (hpL (zabS xs at2))))))))))):=by kernel_rfl
def zaFb:Orc:=Orc.alt 0 (HF (Orc.f (Orc.f (Orc.t (HF (HF (HF (HF (Orc.f (Orc.f (Orc.t (Orc.alt 1 (Orc.alt 2 Orc.z)))))))))))))
theorem zazW (xs:List Int)(at_ d:Int)(at1 at2:Int)(at3 at4:Int)(v w:Int)(a r:ByteArray):gE18 zaFb xs at_ d at1 at2 at3 at4 v w a r=(let z1:=[Value.string ⟨⟨[(48:UInt8)]⟩⟩,Value.string ⟨⟨[(49:UInt8)]⟩⟩,Value.string ⟨⟨[(51:UInt8)]⟩⟩,Value.string ⟨⟨[(48:UInt8),(48:UInt8),(55:UInt8)]⟩⟩];let z2:=[Value.string zaen,Value.string zakB,Value.string zaem];let z3:=AV.ptr 1048577 [0,0] 0 0;let z4:=(hpL [eR 1048577 [0,0] 2 [AV.agg [L1 (List.map i0 xs),i0 at4]]]);let z5:=[(44:UInt8),(32:UInt8)];let z6:=[(40:UInt8)];∃ (_:Unit),(zadm xs at_)/\decide (d>3)=false/\Nf4 (decide (at1>20)=false/\Yt (inR IntKind.i64 (d+1)=true/\∃ (_:Unit),(zaet d xs at1)/\Nf4 (Nf4 (Nf4 (Nf4 (Nf (Nf (Yt (U1 [z3,i0 3] (zabS xs at2) ((decide ((0:Int)<=v/\v<3)&&(true&&List.all z2 zakj))=true/\decide (ByteArray.size (List.getD (zab z2) (Int.toNat v) ByteArray.empty)+1<=9223372036854775807)=true/\decide (ByteArray.size (List.getD (zab z2) (Int.toNat v) ByteArray.empty++⟨⟨z6⟩⟩)+ByteArray.size a<=9223372036854775807)=true/\decide (ByteArray.size (List.getD (zab z2) (Int.toNat v) ByteArray.empty++⟨⟨z6⟩⟩++a)+2<=9223372036854775807)=true/\U1 [z3,i0 4] (zaii xs at3) ((decide ((0:Int)<=w/\w<4)&&(true&&List.all z1 zakj))=true/\decide (ByteArray.size (List.getD (zab z2) (Int.toNat v) ByteArray.empty++⟨⟨z6⟩⟩++a++⟨⟨z5⟩⟩)+ByteArray.size (List.getD (zab z1) (Int.toNat w) ByteArray.empty)<=9223372036854775807)=true/\decide (ByteArray.size (List.getD (zab z2) (Int.toNat v) ByteArray.empty++⟨⟨z6⟩⟩++a++⟨⟨z5⟩⟩++List.getD (zab z1) (Int.toNat w) ByteArray.empty)+1<=9223372036854775807)=true/\Wk (s0 (List.getD (zab z2) (Int.toNat v) ByteArray.empty++⟨⟨z6⟩⟩++a++⟨⟨z5⟩⟩++List.getD (zab z1) (Int.toNat w) ByteArray.empty++⟨⟨[(41:UInt8)]⟩⟩)) (s0 r)/\SameH z4 z4)))))))))))):=by kernel_rfl
def zaFa:Orc:=HF (Orc.f (Orc.f (Orc.t (HF (HF (HF (HF (Orc.f (Orc.f (Orc.f (Orc.t Orc.z)))))))))))
theorem zazU (xs:List Int)(at_ d:Int)(at1 at2:Int)(a r:ByteArray):gE19 zaFa xs at_ d at1 at2 a r=(let z1:=[(33:UInt8),(33:UInt8),(40:UInt8)];∃ (_:Unit),(zadm xs at_)/\decide (d>3)=false/\Nf4 (decide (at1>20)=false/\Yt (inR IntKind.i64 (d+1)=true/\∃ (_:Unit),(zaet d xs at1)/\Nf4 (Nf4 (Nf4 (Nf4 (Nf (Nf (Nf (Yt (decide (3+ByteArray.size a<=9223372036854775807)=true/\decide (ByteArray.size (⟨⟨z1⟩⟩++a)+1<=9223372036854775807)=true/\Wk (s0 (⟨⟨z1⟩⟩++a++⟨⟨[(41:UInt8)]⟩⟩)) (s0 r)/\SameH (hpL (zabS xs at2)) (hpL (zabS xs at2))))))))))))):=by kernel_rfl
end Go.Proofs.YtpofhijgccocpaaGreatDoor
end
section
namespace Go.Proofs.YtpofhijgccocpaaGreatDoor
open Go.AS Go.TP
noncomputable section
abbrev zakz (xs:List Int)(at_ n at' v:Int):Prop:=FOk Tryz.prog gl0 zaaQ [mArg,i0 n] (zakH xs at_) (mOut xs at' (i0 v))
abbrev zaDB (xs:List Int)(at_ at':Int)(s:ByteArray):Prop:=FOk Tryz.prog gl0 zabd [mArg] (zakH xs at_) (mOut xs at' (s0 s))
abbrev zai1 (xs:List Int)(at_ d at':Int)(s:ByteArray):Prop:=FOk Tryz.prog gl0 zab6 [mArg,i0 d] (zakH xs at_) (mOut xs at' (s0 s))
theorem zakq {f:Nat}{s t:Sp}(h:∀ i,s.pre i->FOk Tryz.prog gl0 f (s.args i) (s.heap i) (s.out i))(g:∀ i,t.pre i->FOk Tryz.prog gl0 f (t.args i) (t.heap i) (t.out i)):zagZ Tryz.prog gl0 f (Sp.con [s,t]) :=
 Sp.ok fun u hu i hp=>by
  rcases List.mem_cons.1 hu with rfl|hu
  · exact h i hp
  · obtain rfl:=List.mem_singleton.1 hu;exact g i hp
theorem zaDb {f:Nat}{s t u:Sp}(h:∀ i,s.pre i->FOk Tryz.prog gl0 f (s.args i) (s.heap i) (s.out i))(g:∀ i,t.pre i->FOk Tryz.prog gl0 f (t.args i) (t.heap i) (t.out i))(k:∀ i,u.pre i->FOk Tryz.prog gl0 f (u.args i) (u.heap i) (u.out i)):zagZ Tryz.prog gl0 f (Sp.con [s,t,u]) :=
 Sp.ok fun w hw i hp=>by
  rcases List.mem_cons.1 hw with rfl|hw
  · exact h i hp
  · rcases List.mem_cons.1 hw with rfl|hw
    · exact g i hp
    · obtain rfl:=List.mem_singleton.1 hw;exact k i hp
theorem zaHt {p:Int}(h0:0<=p)(h1:p<60)(k:Nat):0<=hB p k/\hB p k<256:=by
 unfold hB
 match k with
 | 0 =>
  show 0<=hb0 p/\hb0 p<256
  have:(p % 6).toNat=0∨(p % 6).toNat=1∨(p % 6).toNat=2∨(p % 6).toNat=3∨(p % 6).toNat=4∨(p % 6).toNat=5:=by omega
  unfold hb0
  rcases this with h|h|h|h|h|h<;>rw [h]<;>decide
 | 1=>show 0<=p / 6*16 % 256/\p / 6*16 % 256<256;omega
 | 2=>show 0<=p*7 % 256/\p*7 % 256<256;omega
 | k+3 =>
  show 0<=(if k+3=31 then p else 0)/\(if k+3=31 then p else 0)<256
  split<;>omega
def zaBx (t:ByteArray)(w:Int):ByteArray:=bif w==0 then t.extract 0 2 else bif w==1 then t.extract 0 4 else bif w==2 then ⟨⟨[48,48]⟩⟩ else bif w==3 then t.extract 0 6 else bif w==4 then t.extract 0 6 else bif w==5 then t.extract 0 6 else t
variable {t:ByteArray}
theorem zal6 (ht:t.size=64)(w:Int):(zaBx t w).size<=64:=by
 have h:∀ n,(t.extract 0 n).size<=64:=fun n=>by rw [ByteArray.size_extract];omega
 have c:∀ (b:Bool) (x y:ByteArray),x.size<=64->y.size<=64->(bif b then x else y).size<=64:=fun b x y hx hy=>by cases b<;>assumption
 exact c _ _ _ (h _) (c _ _ _ (h _) (c _ _ _ (by decide) (c _ _ _ (h _) (c _ _ _ (h _) (c _ _ _ (h _) (Nat.le_of_eq ht))))))
theorem zamW (ht:t.size=64)(n:Int)(h0:0<=n)(hn:n<=64):decide ((0:Int)<=0/\(0:Int)<=Option.getD (some n) (t.size:Int)/\Option.getD (some n) (t.size:Int)<=(t.size:Int)/\false=false)=true:=by grind
def zaFt:Orc:=Orc.alt 0 (Orc.alt 1 (Orc.s Orc.z (Orc.s Orc.z (Orc.s Orc.z (Orc.s (Orc.t Orc.z) (Orc.s (Orc.t Orc.z) (Orc.s Orc.z Orc.z)))))))
theorem zatI (xs:List Int)(at_ p at1 w at2:Int)(t:ByteArray)(h0:0<=p)(h1:p<60)(ht:t.size=64):zaF8 zaFt xs at_ p at1 w at2 t (zaBx t w):=by
 unfold zaFt
 rw [zatH]
 unfold zaBx
 refine ⟨(),⟨trivial,.refl _,rfl⟩,p,⟨⟨h0,h1⟩,.refl _,rfl⟩,ByteArray.empty,⟨rfl,.refl _,rfl⟩,(),⟨trivial,.refl _,rfl⟩,fun h=>⟨zamW ht 2 (by decide) (by decide),by rw [h];exact .refl _,.rfl⟩,fun h => ?_⟩
 refine ⟨fun g=>⟨zamW ht 4 (by decide) (by decide),by rw [h,g];exact .refl _,.rfl⟩,fun g => ?_⟩
 refine ⟨fun e=>⟨by rw [h,g,e];exact .refl _,.rfl⟩,fun e => ?_⟩
 refine ⟨fun e3=>⟨rfl,zamW ht 6 (by decide) (by decide),by rw [h,g,e,e3];exact .refl _,.rfl⟩,fun e3 => ?_⟩
 refine ⟨fun e4=>⟨rfl,zamW ht 6 (by decide) (by decide),by rw [h,g,e,e3,e4];exact .refl _,.rfl⟩,fun e4 => ?_⟩
 exact ⟨fun e5=>⟨zamW ht 6 (by decide) (by decide),by rw [h,g,e,e3,e4,e5];exact .refl _,.rfl⟩,fun e5=>⟨by rw [h,g,e,e3,e4,e5];exact .refl _,.rfl⟩⟩
theorem zaG7 {X:WX}(hX:X.Sound)(hp:X.px=X0){xs:List Int}{at_:Int}{h:Nat->Int}(hB:BNm xs at_ h ByteArray.empty 0 t):(X.addLp zabd 0 (lpNm (fun s=>s=ByteArray.empty) xs at_ h 0 (nOut xs at_ h t))).Sound:=by
 have hP:X.px.P=Tryz.prog:=by rw [hp];rfl
 have hg:X.px.gl=gl0:=by rw [hp];rfl
 refine hX.addLp (fn:=fn zabd) (code:=code zabd) (by rw [hP];exact fnOk zabd (by kernel_rfl)) (show (fn zabd).body=some (code zabd) by kernel_rfl) (by kernel_rfl) ?_
 rw [hP,hg]
 exact Spl.ok (l:=[zaFu (fun s=>s=ByteArray.empty) xs at_ h 0 t]) rfl (show ([0,3,4,5,6]:List Nat).Nodup by decide) fun s' hs' i hi=>by
   obtain rfl:=List.mem_singleton.1 hs'
   obtain rfl:i=ByteArray.empty:=hi
   exact hB
attribute [local irreducible] runF in
theorem zaxp (xs:List Int)(at_:Int)(hx:okXs xs)(h0:0<=at_)(h1:at_<=10000):∃ at' s,at_<=at'/\at'<=at_+2/\s.size<=64/\zaDB xs at_ at' s:=by
 obtain ⟨p,at1,a1,a2,a3,a4,hn1⟩:=zacK xs at_ 60 hx h0 (by omega) (by decide) (by decide)
 obtain ⟨w,at2,b1,b2,b3,b4,hn2⟩:=zacK xs at1 12 hx (by omega) (by omega) (by decide) (by decide)
 obtain ⟨t,ht,hB⟩:=nm0 xs at1 (hB p) (zaHt a1 a2) ByteArray.empty rfl
 refine ⟨at2,zaBx t w,by omega,by omega,zal6 ht w,?_⟩
 have hX:(XH.add zaaQ (Sp.con [zabB xs at_ 60 at1 p,zabB xs at1 12 at2 w])).Sound:=zaq9.add (zakq (fun _ _=>hn1) (fun _ _=>hn2))
 exact zade (d:=10) ((zaG7 hX rfl hB).ask [zabd]) (f:=zabd) (fn:=fn zabd) (code:=code zabd) (fnOk zabd (by kernel_rfl)) (show (fn zabd).body=some (code zabd) by kernel_rfl) (by kernel_rfl) (zatI xs at_ p at1 w at2 t a1 a2 ht)
theorem szL (l:List UInt8):ByteArray.size ⟨⟨l⟩⟩=l.length:=rfl
theorem getS (l:List Value)(n m:Nat)(h:(zab l).all (fun x=>decide (x.size<=m))=true):((zab l).getD n ByteArray.empty).size<=m:=by
 rw [List.all_eq_true] at h
 rw [List.getD_eq_getElem?_getD]
 cases hc:(zab l)[n]? with
 | none=>exact Nat.zero_le _
 | some x=>exact of_decide_eq_true (h x (List.mem_of_getElem? hc))
theorem andT {a b:Bool}(ha:a=true)(hb:b=true):(a&&b)=true:=by rw [ha,hb];rfl
theorem zad8 {p:Prop}(h:p:=by repeat (first|refine And.intro ?_ ?_|refine Exists.intro () ?_|exact True.intro|exact Wks.refl _|exact Wk.refl _|exact SameH.rfl|exact zaag (by omega) (by omega)|exact decide_eq_true (by omega)|exact decide_eq_true (by simp only [ByteArray.size_append,szL,List.length_cons,List.length_nil];omega)|exact decide_eq_false (by omega)|exact beq_eq_false_iff_ne.2 (by omega)|exact beq_iff_eq.2 (by omega)|exact andT (decide_eq_true (by omega)) rfl|exact rfl)):p:=h
attribute [local irreducible] runF in
theorem exFn {X:WX}(hX:X.Sound)(hp:X.px=X0){os:Orc}{xs:List Int}{at_ d at':Int}{r:ByteArray}(g:gEx X os xs at_ d at' r):zai1 xs at_ d at' r:=by
 have hP:X.px.P=Tryz.prog:=by rw [hp];rfl
 have hg:X.px.gl=gl0:=by rw [hp];rfl
 have:=zade (X:=X.ask [zab6]) (d:=12) (hX.ask _) (f:=zab6) (fn:=fn zab6) (code:=code zab6) (by show X.px.P.funcs[zab6]?=_;rw [hP];exact fnOk zab6 (by kernel_rfl)) (show (fn zab6).body=some (code zab6) by kernel_rfl) (by kernel_rfl) g
 show FOk Tryz.prog gl0 zab6 _ _ _
 rw [<-hg,<-hP];exact this
theorem zazs (xs:List Int)(at_ d at1 at2 k v:Int)(k0:0<=k)(k1:k<26)(v0:0<=v)(v1:v<3)(hd:d>3)(hk:k % 6=0):∃ r,ByteArray.size r<=64/\gLaA zaE2 xs at_ d at1 at2 k v r:=by
 have hV:=getS [Value.string { data:={ toList:=[(97:UInt8),(108:UInt8),(108:UInt8),(40:UInt8),(41:UInt8)] } },Value.string { data:={ toList:=[(109:UInt8),(97:UInt8),(115:UInt8),(116:UInt8),(101:UInt8),(114:UInt8),(40:UInt8),(41:UInt8)] } },Value.string { data:={ toList:=[(110:UInt8),(111:UInt8),(110:UInt8),(101:UInt8),(40:UInt8),(41:UInt8)] } }] (Int.toNat v) 16 rfl
 have tm:k.tmod 6=k % 6:=Int.tmod_eq_emod_of_nonneg k0
 refine ⟨_,Nat.le_trans hV (by decide),?_⟩
 rw [zazr,tm]
 exact zad8
theorem zazk (xs:List Int)(at_ d at1 at2 k:Int)(s:ByteArray)(k0:0<=k)(k1:k<26)(hd:d>3)(hk:k % 6≠0):gLnA zaEY xs at_ d at1 at2 k s:=by
 have tm:k.tmod 6=k % 6:=Int.tmod_eq_emod_of_nonneg k0
 rw [zazj,tm]
 exact zad8
theorem zazq (xs:List Int)(at_ d at1 at2 k v:Int)(k0:0<=k)(k1:k<26)(v0:0<=v)(v1:v<3)(hd:d<=3)(ha:at1>20)(hk:k % 6=0):∃ r,ByteArray.size r<=64/\gLaB zaE1 xs at_ d at1 at2 k v r:=by
 have hV:=getS [Value.string { data:={ toList:=[(97:UInt8),(108:UInt8),(108:UInt8),(40:UInt8),(41:UInt8)] } },Value.string { data:={ toList:=[(109:UInt8),(97:UInt8),(115:UInt8),(116:UInt8),(101:UInt8),(114:UInt8),(40:UInt8),(41:UInt8)] } },Value.string { data:={ toList:=[(110:UInt8),(111:UInt8),(110:UInt8),(101:UInt8),(40:UInt8),(41:UInt8)] } }] (Int.toNat v) 16 rfl
 have tm:k.tmod 6=k % 6:=Int.tmod_eq_emod_of_nonneg k0
 refine ⟨_,Nat.le_trans hV (by decide),?_⟩
 rw [zazp,tm]
 exact zad8
theorem zazi (xs:List Int)(at_ d at1 at2 k:Int)(s:ByteArray)(k0:0<=k)(k1:k<26)(hd:d<=3)(ha:at1>20)(hk:k % 6≠0):gLnB zaEX xs at_ d at1 at2 k s:=by
 have tm:k.tmod 6=k % 6:=Int.tmod_eq_emod_of_nonneg k0
 rw [zazh,tm]
 exact zad8
theorem zazo (xs:List Int)(at_ d at1 at2 k v:Int)(k0:0<=k)(k1:k<26)(v0:0<=v)(v1:v<3)(hd:d<=3)(ha:at1<=20)(hk:k=20):∃ r,ByteArray.size r<=64/\gLaC zaE0 xs at_ d at1 at2 k v r:=by
 have hV:=getS [Value.string { data:={ toList:=[(97:UInt8),(108:UInt8),(108:UInt8),(40:UInt8),(41:UInt8)] } },Value.string { data:={ toList:=[(109:UInt8),(97:UInt8),(115:UInt8),(116:UInt8),(101:UInt8),(114:UInt8),(40:UInt8),(41:UInt8)] } },Value.string { data:={ toList:=[(110:UInt8),(111:UInt8),(110:UInt8),(101:UInt8),(40:UInt8),(41:UInt8)] } }] (Int.toNat v) 16 rfl
 refine ⟨_,Nat.le_trans hV (by decide),?_⟩
 rw [zazn]
 exact zad8
theorem zazg (xs:List Int)(at_ d at1 at2 k:Int)(s:ByteArray)(k0:0<=k)(k1:k<26)(hd:d<=3)(ha:at1<=20)(hk:k>20):gLnC zaEW xs at_ d at1 at2 k s:=by
 rw [zazf]
 exact zad8
theorem zaC1 (xs:List Int)(at_ d at1 at2 at3 at4 v:Int)(a b:ByteArray)(T:Nat)(hT:T<=2000)(ha:a.size<=T)(hb:b.size<=T)(v0:0<=v)(v1:v<3)(d0:0<=d)(d3:d<=3)(h1:at1<=20):∃ r,ByteArray.size r<=2*T+20/\gE0 ogE0 xs at_ d at1 at2 at3 at4 v a b r:=by
 have hV:=getS [Value.string { data:={ toList:=[(32:UInt8),(111:UInt8),(114:UInt8),(32:UInt8)] } },Value.string { data:={ toList:=[(43:UInt8)] } },Value.string { data:={ toList:=[(32:UInt8),(124:UInt8),(32:UInt8)] } }] (Int.toNat v) 7 rfl
 apply Exists.intro
 refine And.intro ?sz ?go
 case go =>
  rw [zaC0];delta zadm zaet zabS zaii zaww
  exact zad8
 case sz =>
  simp only [ByteArray.size_append,szL,List.length_cons,List.length_nil]
  omega
theorem zaCZ (xs:List Int)(at_ d at1 at2 at3 at4 v:Int)(a b:ByteArray)(T:Nat)(hT:T<=2000)(ha:a.size<=T)(hb:b.size<=T)(v0:0<=v)(v1:v<3)(d0:0<=d)(d3:d<=3)(h1:at1<=20):∃ r,ByteArray.size r<=2*T+20/\gE1 ogE1 xs at_ d at1 at2 at3 at4 v a b r:=by
 have hV:=getS [Value.string { data:={ toList:=[(32:UInt8),(45:UInt8),(32:UInt8)] } },Value.string { data:={ toList:=[(45:UInt8)] } },Value.string { data:={ toList:=[(32:UInt8),(109:UInt8),(105:UInt8),(110:UInt8),(117:UInt8),(115:UInt8),(32:UInt8)] } }] (Int.toNat v) 7 rfl
 apply Exists.intro
 refine And.intro ?sz ?go
 case go =>
  rw [zaCY];delta zadm zaet zabS zaii zawx
  exact zad8
 case sz =>
  simp only [ByteArray.size_append,szL,List.length_cons,List.length_nil]
  omega
theorem zaCX (xs:List Int)(at_ d at1 at2 at3 at4 v:Int)(a b:ByteArray)(T:Nat)(hT:T<=2000)(ha:a.size<=T)(hb:b.size<=T)(v0:0<=v)(v1:v<2)(d0:0<=d)(d3:d<=3)(h1:at1<=20):∃ r,ByteArray.size r<=2*T+20/\gE2 ogE2 xs at_ d at1 at2 at3 at4 v a b r:=by
 have hV:=getS [Value.string { data:={ toList:=[(32:UInt8),(97:UInt8),(110:UInt8),(100:UInt8),(32:UInt8)] } },Value.string { data:={ toList:=[(38:UInt8)] } }] (Int.toNat v) 7 rfl
 apply Exists.intro
 refine And.intro ?sz ?go
 case go =>
  rw [zaCW];delta zadm zaet zabS zauO zaii
  exact zad8
 case sz =>
  simp only [ByteArray.size_append,szL,List.length_cons,List.length_nil]
  omega
theorem zaCV (xs:List Int)(at_ d at1 at2 at3 at4 v:Int)(a b:ByteArray)(T:Nat)(hT:T<=2000)(ha:a.size<=T)(hb:b.size<=T)(v0:0<=v)(v1:v<2)(d0:0<=d)(d3:d<=3)(h1:at1<=20):∃ r,ByteArray.size r<=2*T+20/\gE3 ogE3 xs at_ d at1 at2 at3 at4 v a b r:=by
 have hV:=getS [Value.string { data:={ toList:=[(32:UInt8),(97:UInt8),(110:UInt8),(100:UInt8),(32:UInt8)] } },Value.string { data:={ toList:=[(38:UInt8)] } }] (Int.toNat v) 7 rfl
 apply Exists.intro
 refine And.intro ?sz ?go
 case go =>
  rw [zaCU];delta zadm zaet zabS zauO zaii
  exact zad8
 case sz =>
  simp only [ByteArray.size_append,szL,List.length_cons,List.length_nil]
  omega
theorem zaCT (xs:List Int)(at_ d at1 at2 at3 v:Int)(a:ByteArray)(T:Nat)(hT:T<=2000)(ha:a.size<=T)(v0:0<=v)(v1:v<2)(d0:0<=d)(d3:d<=3)(h1:at1<=20):∃ r,ByteArray.size r<=2*T+20/\gE4 ogE4 xs at_ d at1 at2 at3 v a r:=by
 have hV:=getS [Value.string { data:={ toList:=[(110:UInt8),(111:UInt8),(116:UInt8),(32:UInt8)] } },Value.string { data:={ toList:=[(33:UInt8)] } }] (Int.toNat v) 7 rfl
 apply Exists.intro
 refine And.intro ?sz ?go
 case go =>
  rw [zaCS]
  exact zad8
 case sz =>
  simp only [ByteArray.size_append,szL,List.length_cons,List.length_nil]
  omega
theorem zaCR (xs:List Int)(at_ d at1 at2:Int)(a:ByteArray)(T:Nat)(hT:T<=2000)(ha:a.size<=T)(d0:0<=d)(d3:d<=3)(h1:at1<=20):∃ r,ByteArray.size r<=2*T+20/\gE5 ogE5 xs at_ d at1 at2 a r:=by
 apply Exists.intro
 refine And.intro ?sz ?go
 case go =>
  rw [zaCQ]
  exact zad8
 case sz =>
  simp only [ByteArray.size_append,szL,List.length_cons,List.length_nil]
  omega
theorem zaCP (xs:List Int)(at_ d at1 at2:Int)(a:ByteArray)(T:Nat)(hT:T<=2000)(ha:a.size<=T)(d0:0<=d)(d3:d<=3)(h1:at1<=20):∃ r,ByteArray.size r<=2*T+20/\gE6 ogE6 xs at_ d at1 at2 a r:=by
 apply Exists.intro
 refine And.intro ?sz ?go
 case go =>
  rw [zaCO]
  exact zad8
 case sz =>
  simp only [ByteArray.size_append,szL,List.length_cons,List.length_nil]
  omega
theorem zaCN (xs:List Int)(at_ d at1 at2:Int)(a:ByteArray)(T:Nat)(hT:T<=2000)(ha:a.size<=T)(d0:0<=d)(d3:d<=3)(h1:at1<=20):∃ r,ByteArray.size r<=2*T+20/\gE7 ogE7 xs at_ d at1 at2 a r:=by
 apply Exists.intro
 refine And.intro ?sz ?go
 case go =>
  rw [zaCM]
  exact zad8
 case sz =>
  simp only [ByteArray.size_append,szL,List.length_cons,List.length_nil]
  omega
theorem zaCL (xs:List Int)(at_ d at1 at2:Int)(a:ByteArray)(T:Nat)(hT:T<=2000)(ha:a.size<=T)(d0:0<=d)(d3:d<=3)(h1:at1<=20):∃ r,ByteArray.size r<=2*T+20/\gE8 ogE8 xs at_ d at1 at2 a r:=by
 apply Exists.intro
 refine And.intro ?sz ?go
 case go =>
  rw [zaCK]
  exact zad8
 case sz =>
  simp only [ByteArray.size_append,szL,List.length_cons,List.length_nil]
  omega
theorem zaCJ (xs:List Int)(at_ d at1 at2 at3:Int)(a b:ByteArray)(T:Nat)(hT:T<=2000)(ha:a.size<=T)(hb:b.size<=T)(d0:0<=d)(d3:d<=3)(h1:at1<=20):∃ r,ByteArray.size r<=2*T+20/\gE9 ogE9 xs at_ d at1 at2 at3 a b r:=by
 apply Exists.intro
 refine And.intro ?sz ?go
 case go =>
  rw [zaCI]
  exact zad8
 case sz =>
  simp only [ByteArray.size_append,szL,List.length_cons,List.length_nil]
  omega
theorem zaAc (xs:List Int)(at_ d at1 at2 at3:Int)(a b:ByteArray)(T:Nat)(hT:T<=2000)(ha:a.size<=T)(hb:b.size<=T)(d0:0<=d)(d3:d<=3)(h1:at1<=20):∃ r,ByteArray.size r<=2*T+20/\gE10 zaFj xs at_ d at1 at2 at3 a b r:=by
 apply Exists.intro
 refine And.intro ?sz ?go
 case go =>
  rw [zaAb]
  exact zad8
 case sz =>
  simp only [ByteArray.size_append,szL,List.length_cons,List.length_nil]
  omega
theorem zaAa (xs:List Int)(at_ d at1 at2:Int)(a:ByteArray)(T:Nat)(hT:T<=2000)(ha:a.size<=T)(d0:0<=d)(d3:d<=3)(h1:at1<=20):∃ r,ByteArray.size r<=2*T+20/\gE11 zaFi xs at_ d at1 at2 a r:=by
 apply Exists.intro
 refine And.intro ?sz ?go
 case go =>
  rw [zaA]
  exact zad8
 case sz =>
  simp only [ByteArray.size_append,szL,List.length_cons,List.length_nil]
  omega
theorem zaz9 (xs:List Int)(at_ d at1 at2:Int)(a:ByteArray)(T:Nat)(hT:T<=2000)(ha:a.size<=T)(d0:0<=d)(d3:d<=3)(h1:at1<=20):∃ r,ByteArray.size r<=2*T+20/\gE12 zaFh xs at_ d at1 at2 a r:=by
 apply Exists.intro
 refine And.intro ?sz ?go
 case go =>
  rw [zaz8]
  exact zad8
 case sz =>
  simp only [ByteArray.size_append,szL,List.length_cons,List.length_nil]
  omega
theorem zaz7 (xs:List Int)(at_ d at1 at2:Int)(a:ByteArray)(T:Nat)(hT:T<=2000)(ha:a.size<=T)(d0:0<=d)(d3:d<=3)(h1:at1<=20):∃ r,ByteArray.size r<=2*T+20/\gE13 zaFg xs at_ d at1 at2 a r:=by
 apply Exists.intro
 refine And.intro ?sz ?go
 case go =>
  rw [zaz6]
  exact zad8
 case sz =>
  simp only [ByteArray.size_append,szL,List.length_cons,List.length_nil]
  omega
theorem zaz5 (xs:List Int)(at_ d at1 at2:Int)(a:ByteArray)(T:Nat)(hT:T<=2000)(ha:a.size<=T)(d0:0<=d)(d3:d<=3)(h1:at1<=20):∃ r,ByteArray.size r<=2*T+20/\gE14 zaFf xs at_ d at1 at2 a r:=by
 apply Exists.intro
 refine And.intro ?sz ?go
 case go =>
  rw [zaz4]
  exact zad8
 case sz =>
  simp only [ByteArray.size_append,szL,List.length_cons,List.length_nil]
  omega
theorem zaz3 (xs:List Int)(at_ d at1 at2:Int)(a:ByteArray)(T:Nat)(hT:T<=2000)(ha:a.size<=T)(d0:0<=d)(d3:d<=3)(h1:at1<=20):∃ r,ByteArray.size r<=2*T+20/\gE15 zaFe xs at_ d at1 at2 a r:=by
 apply Exists.intro
 refine And.intro ?sz ?go
 case go =>
  rw [zaz2]
  exact zad8
 case sz =>
  simp only [ByteArray.size_append,szL,List.length_cons,List.length_nil]
  omega
theorem zaz1 (xs:List Int)(at_ d at1 at2:Int)(a:ByteArray)(T:Nat)(hT:T<=2000)(ha:a.size<=T)(d0:0<=d)(d3:d<=3)(h1:at1<=20):∃ r,ByteArray.size r<=2*T+20/\gE16 zaFd xs at_ d at1 at2 a r:=by
 apply Exists.intro
 refine And.intro ?sz ?go
 case go =>
  rw [zaz0]
  exact zad8
 case sz =>
  simp only [ByteArray.size_append,szL,List.length_cons,List.length_nil]
  omega
theorem zazZ (xs:List Int)(at_ d at1 at2:Int)(a:ByteArray)(T:Nat)(hT:T<=2000)(ha:a.size<=T)(d0:0<=d)(d3:d<=3)(h1:at1<=20):∃ r,ByteArray.size r<=2*T+20/\gE17 zaFc xs at_ d at1 at2 a r:=by
 apply Exists.intro
 refine And.intro ?sz ?go
 case go =>
  rw [zazY]
  exact zad8
 case sz =>
  simp only [ByteArray.size_append,szL,List.length_cons,List.length_nil]
  omega
theorem zazX (xs:List Int)(at_ d at1 at2 at3 at4 v w:Int)(a:ByteArray)(T:Nat)(hT:T<=2000)(ha:a.size<=T)(v0:0<=v)(v1:v<3)(w0:0<=w)(w1:w<4)(d0:0<=d)(d3:d<=3)(h1:at1<=20):∃ r,ByteArray.size r<=2*T+20/\gE18 zaFb xs at_ d at1 at2 at3 at4 v w a r:=by
 have hV:=getS [Value.string zaen,Value.string zakB,Value.string zaem] (Int.toNat v) 7 rfl
 have hW:=getS [Value.string { data:={ toList:=[(48:UInt8)] } },Value.string { data:={ toList:=[(49:UInt8)] } },Value.string { data:={ toList:=[(51:UInt8)] } },Value.string { data:={ toList:=[(48:UInt8),(48:UInt8),(55:UInt8)] } }] (Int.toNat w) 3 rfl
 apply Exists.intro
 refine And.intro ?sz ?go
 case go =>
  rw [zazW]
  exact zad8
 case sz =>
  simp only [ByteArray.size_append,szL,List.length_cons,List.length_nil]
  omega
theorem zazV (xs:List Int)(at_ d at1 at2:Int)(a:ByteArray)(T:Nat)(hT:T<=2000)(ha:a.size<=T)(d0:0<=d)(d3:d<=3)(h1:at1<=20):∃ r,ByteArray.size r<=2*T+20/\gE19 zaFa xs at_ d at1 at2 a r:=by
 apply Exists.intro
 refine And.intro ?sz ?go
 case go =>
  rw [zazU]
  exact zad8
 case sz =>
  simp only [ByteArray.size_append,szL,List.length_cons,List.length_nil]
  omega
noncomputable def X0T:PX:={ X0 with own:=fun f d=>Nat.beq f zajK||Nat.beq f zacg||(Nat.beq f zaiJ&&Nat.beq d 4) }
theorem zavz:X0T.Sound:=by
 obtain ⟨a,b,c⟩:=zaic
 exact ⟨a,b,c⟩
noncomputable def XT:WX:=WX.base X0T
theorem zaGx:XT.Sound := .base zavz
abbrev ExOk (xs:List Int)(d:Int)(T:Nat)(C:Int):Prop:=∀ at_,0<=at_->at_+C<=1000->∃ at' s,at_<=at'/\at'<=at_+C/\s.size<=T/\zai1 xs at_ d at' s
variable {xs:List Int} {at_ at1 at2 k v d at3:Int} {a:ByteArray}
theorem zauE (hn:zakz xs at_ 26 at1 k)(hv:zakz xs at1 3 at2 v):(XLa xs at_ at1 at2 k v).Sound:=zaq9.add (zakq (s:=zabB xs at_ 26 at1 k) (t:=zabB xs at1 3 at2 v) (fun _ _=>hn) (fun _ _=>hv))
theorem zauD {s:ByteArray}(hn:zakz xs at_ 26 at1 k)(hE:zaDB xs at1 at2 s):(XLn xs at_ at1 at2 k s).Sound:=(zaq9.add (zabv (s:=zabB xs at_ 26 at1 k) (fun _ _=>hn))).add (zabv (s:=spNm xs at1 at2 s) (fun _ _=>hE))
theorem zaeq (hn:zakz xs at_ 26 at1 k)(hA:zai1 xs at1 (d+1) at2 a):(X1a xs at_ d at1 at2 k a).Sound:=(zaq9.add (zabv (s:=zabB xs at_ 26 at1 k) (fun _ _=>hn))).add (zabv (s:=spE xs at1 (d+1) at2 a) (fun _ _=>hA))
theorem zaDA {n:Int}(hn:zakz xs at_ 26 at1 k)(hv:zakz xs at2 n at3 v)(hA:zai1 xs at1 (d+1) at2 a):(X1b xs at_ d at1 at2 at3 k n v a).Sound:=(zaq9.add (zakq (s:=zabB xs at_ 26 at1 k) (t:=zabB xs at2 n at3 v) (fun _ _=>hn) (fun _ _=>hv))).add (zabv (s:=spE xs at1 (d+1) at2 a) (fun _ _=>hA))
theorem zaDz {at4 w:Int}(hn:zakz xs at_ 26 at1 k)(hv:zakz xs at2 3 at3 v)(hw:zakz xs at3 4 at4 w)(hA:zai1 xs at1 (d+1) at2 a):(X1c xs at_ d at1 at2 at3 at4 k v w a).Sound:=(zaq9.add (zaDb (s:=zabB xs at_ 26 at1 k) (t:=zabB xs at2 3 at3 v) (u:=zabB xs at3 4 at4 w) (fun _ _=>hn) (fun _ _=>hv) (fun _ _=>hw))).add (zabv (s:=spE xs at1 (d+1) at2 a) (fun _ _=>hA))
theorem zaBj {b:ByteArray}(hn:zakz xs at_ 26 at1 k)(hA:zai1 xs at1 (d+1) at2 a)(hB:zai1 xs at2 (d+1) at3 b):(X2a xs at_ d at1 at2 at3 k a b).Sound:=(zaq9.add (zabv (s:=zabB xs at_ 26 at1 k) (fun _ _=>hn))).add (zakq (s:=spE xs at1 (d+1) at2 a) (t:=spE xs at2 (d+1) at3 b) (fun _ _=>hA) (fun _ _=>hB))
theorem zapB {at4 n:Int}{b:ByteArray}(hn:zakz xs at_ 26 at1 k)(hv:zakz xs at2 n at3 v)(hA:zai1 xs at1 (d+1) at2 a)(hB:zai1 xs at3 (d+1) at4 b):(X2b xs at_ d at1 at2 at3 at4 k n v a b).Sound:=(zaq9.add (zakq (s:=zabB xs at_ 26 at1 k) (t:=zabB xs at2 n at3 v) (fun _ _=>hn) (fun _ _=>hv))).add (zakq (s:=spE xs at1 (d+1) at2 a) (t:=spE xs at3 (d+1) at4 b) (fun _ _=>hA) (fun _ _=>hB))
attribute [local irreducible] runF in
theorem zamG (xs:List Int)(hx:okXs xs)(d:Int)(T:Nat)(C:Int)(hT:T<=1000)(hT0:64<=2*T+20)(C0:0<=C)(d0:0<=d)(d3:d<=4)(ih:d<=3->ExOk xs (d+1) T C):ExOk xs d (2*T+20) (2*C+4):=by
 intro at_ h0 h1
 obtain ⟨k,at1,k0,k1,a1,a2,hn⟩:=zacK xs at_ 26 hx h0 (by omega) (by decide) (by decide)
 have leafA:(∀ v at2,0<=v->v<3->zakz xs at1 3 at2 v->∃ s,s.size<=2*T+20/\zai1 xs at_ d at2 s)->∃ at' s,at_<=at'/\at'<=at_+(2*C+4)/\s.size<=2*T+20/\zai1 xs at_ d at' s:=by
  intro h
  obtain ⟨v,at2,v0,v1,b1,b2,hv⟩:=zacK xs at1 3 hx (by omega) (by omega) (by decide) (by decide)
  obtain ⟨s,hs,hE⟩:=h v at2 v0 v1 hv
  exact ⟨at2,s,by omega,by omega,hs,hE⟩
 have leafN:(∀ s at2,zaDB xs at1 at2 s->zai1 xs at_ d at2 s)->∃ at' s,at_<=at'/\at'<=at_+(2*C+4)/\s.size<=2*T+20/\zai1 xs at_ d at' s:=by
  intro h
  obtain ⟨at2,s,b1,b2,hs,hE⟩:=zaxp xs at1 hx (by omega) (by omega)
  exact ⟨at2,s,by omega,by omega,by omega,h s at2 hE⟩
 by_cases hd:d>3
 · by_cases hk:k % 6=0
   · refine leafA fun v at2 v0 v1 hv => ?_
     obtain ⟨r,hr,g⟩:=zazs xs at_ d at1 at2 k v k0 k1 v0 v1 hd hk
     exact ⟨r,by omega,exFn (X:=XLa xs at_ at1 at2 k v) (zauE hn hv) rfl g⟩
   · refine leafN fun s at2 hE => ?_
     exact exFn (X:=XLn xs at_ at1 at2 k s) (zauD hn hE) rfl (zazk xs at_ d at1 at2 k s k0 k1 hd hk)
 have hd:d<=3:=by omega
 by_cases ha:at1>20
 · by_cases hk:k % 6=0
   · refine leafA fun v at2 v0 v1 hv => ?_
     obtain ⟨r,hr,g⟩:=zazq xs at_ d at1 at2 k v k0 k1 v0 v1 hd ha hk
     exact ⟨r,by omega,exFn (X:=XLa xs at_ at1 at2 k v) (zauE hn hv) rfl g⟩
   · refine leafN fun s at2 hE => ?_
     exact exFn (X:=XLn xs at_ at1 at2 k s) (zauD hn hE) rfl (zazi xs at_ d at1 at2 k s k0 k1 hd ha hk)
 have ha:at1<=20:=by omega
 by_cases hk:k=20
 · refine leafA fun v at2 v0 v1 hv => ?_
   obtain ⟨r,hr,g⟩:=zazo xs at_ d at1 at2 k v k0 k1 v0 v1 hd ha hk
   exact ⟨r,by omega,exFn (X:=XLa xs at_ at1 at2 k v) (zauE hn hv) rfl g⟩
 by_cases hk:k>20
 · refine leafN fun s at2 hE => ?_
   exact exFn (X:=XLn xs at_ at1 at2 k s) (zauD hn hE) rfl (zazg xs at_ d at1 at2 k s k0 k1 hd ha hk)
 have ih:=ih hd
 obtain ⟨at2,a,b1,b2,ha2,hA⟩:=ih at1 (by omega) (by omega)
 have one:(∃ r,ByteArray.size r<=2*T+20/\zai1 xs at_ d at2 r)->∃ at' s,at_<=at'/\at'<=at_+(2*C+4)/\s.size<=2*T+20/\zai1 xs at_ d at' s:=fun ⟨r,hr,hE⟩=>⟨at2,r,by omega,by omega,hr,hE⟩
 have hk:k=0∨k=1∨k=2∨k=3∨k=4∨k=5∨k=6∨k=7∨k=8∨k=9∨k=10∨k=11∨k=12∨k=13∨k=14∨k=15∨k=16∨k=17∨k=18∨k=19:=by omega
 rcases hk with rfl|rfl|rfl|rfl|rfl|rfl|rfl|rfl|rfl|rfl|rfl|rfl|rfl|rfl|rfl|rfl|rfl|rfl|rfl|rfl
 · obtain ⟨v,at3,v0,v1,c1,c2,hv⟩:=zacK xs at2 3 hx (by omega) (by omega) (by decide) (by decide)
   obtain ⟨at4,b,e1,e2,hb2,hB⟩:=ih at3 (by omega) (by omega)
   obtain ⟨r,hr,g⟩:=zaC1 xs at_ d at1 at2 at3 at4 v a b T (by omega) ha2 hb2 v0 v1 d0 hd ha
   exact ⟨at4,r,by omega,by omega,hr,exFn (X:=X2b xs at_ d at1 at2 at3 at4 0 3 v a b) (zapB hn hv hA hB) rfl g⟩
 · obtain ⟨v,at3,v0,v1,c1,c2,hv⟩:=zacK xs at2 3 hx (by omega) (by omega) (by decide) (by decide)
   obtain ⟨at4,b,e1,e2,hb2,hB⟩:=ih at3 (by omega) (by omega)
   obtain ⟨r,hr,g⟩:=zaCZ xs at_ d at1 at2 at3 at4 v a b T (by omega) ha2 hb2 v0 v1 d0 hd ha
   exact ⟨at4,r,by omega,by omega,hr,exFn (X:=X2b xs at_ d at1 at2 at3 at4 1 3 v a b) (zapB hn hv hA hB) rfl g⟩
 · obtain ⟨v,at3,v0,v1,c1,c2,hv⟩:=zacK xs at2 2 hx (by omega) (by omega) (by decide) (by decide)
   obtain ⟨at4,b,e1,e2,hb2,hB⟩:=ih at3 (by omega) (by omega)
   obtain ⟨r,hr,g⟩:=zaCX xs at_ d at1 at2 at3 at4 v a b T (by omega) ha2 hb2 v0 v1 d0 hd ha
   exact ⟨at4,r,by omega,by omega,hr,exFn (X:=X2b xs at_ d at1 at2 at3 at4 2 2 v a b) (zapB hn hv hA hB) rfl g⟩
 · obtain ⟨v,at3,v0,v1,c1,c2,hv⟩:=zacK xs at2 2 hx (by omega) (by omega) (by decide) (by decide)
   obtain ⟨at4,b,e1,e2,hb2,hB⟩:=ih at3 (by omega) (by omega)
   obtain ⟨r,hr,g⟩:=zaCV xs at_ d at1 at2 at3 at4 v a b T (by omega) ha2 hb2 v0 v1 d0 hd ha
   exact ⟨at4,r,by omega,by omega,hr,exFn (X:=X2b xs at_ d at1 at2 at3 at4 3 2 v a b) (zapB hn hv hA hB) rfl g⟩
 · obtain ⟨v,at3,v0,v1,c1,c2,hv⟩:=zacK xs at2 2 hx (by omega) (by omega) (by decide) (by decide)
   obtain ⟨r,hr,g⟩:=zaCT xs at_ d at1 at2 at3 v a T (by omega) ha2 v0 v1 d0 hd ha
   exact ⟨at3,r,by omega,by omega,hr,exFn (X:=X1b xs at_ d at1 at2 at3 4 2 v a) (zaDA hn hv hA) rfl g⟩
 · obtain ⟨r,hr,g⟩:=zaCR xs at_ d at1 at2 a T (by omega) ha2 d0 hd ha
   exact one ⟨r,hr,exFn (X:=X1a xs at_ d at1 at2 5 a) (zaeq hn hA) rfl g⟩
 · obtain ⟨r,hr,g⟩:=zaCP xs at_ d at1 at2 a T (by omega) ha2 d0 hd ha
   exact one ⟨r,hr,exFn (X:=X1a xs at_ d at1 at2 6 a) (zaeq hn hA) rfl g⟩
 · obtain ⟨r,hr,g⟩:=zaCN xs at_ d at1 at2 a T (by omega) ha2 d0 hd ha
   exact one ⟨r,hr,exFn (X:=X1a xs at_ d at1 at2 7 a) (zaeq hn hA) rfl g⟩
 · obtain ⟨r,hr,g⟩:=zaCL xs at_ d at1 at2 a T (by omega) ha2 d0 hd ha
   exact one ⟨r,hr,exFn (X:=X1a xs at_ d at1 at2 8 a) (zaeq hn hA) rfl g⟩
 · obtain ⟨at3,b,e1,e2,hb2,hB⟩:=ih at2 (by omega) (by omega)
   obtain ⟨r,hr,g⟩:=zaCJ xs at_ d at1 at2 at3 a b T (by omega) ha2 hb2 d0 hd ha
   exact ⟨at3,r,by omega,by omega,hr,exFn (X:=X2a xs at_ d at1 at2 at3 9 a b) (zaBj hn hA hB) rfl g⟩
 · obtain ⟨at3,b,e1,e2,hb2,hB⟩:=ih at2 (by omega) (by omega)
   obtain ⟨r,hr,g⟩:=zaAc xs at_ d at1 at2 at3 a b T (by omega) ha2 hb2 d0 hd ha
   exact ⟨at3,r,by omega,by omega,hr,exFn (X:=X2a xs at_ d at1 at2 at3 10 a b) (zaBj hn hA hB) rfl g⟩
 · obtain ⟨r,hr,g⟩:=zaAa xs at_ d at1 at2 a T (by omega) ha2 d0 hd ha
   exact one ⟨r,hr,exFn (X:=X1a xs at_ d at1 at2 11 a) (zaeq hn hA) rfl g⟩
 · obtain ⟨r,hr,g⟩:=zaz9 xs at_ d at1 at2 a T (by omega) ha2 d0 hd ha
   exact one ⟨r,hr,exFn (X:=X1a xs at_ d at1 at2 12 a) (zaeq hn hA) rfl g⟩
 · obtain ⟨r,hr,g⟩:=zaz7 xs at_ d at1 at2 a T (by omega) ha2 d0 hd ha
   exact one ⟨r,hr,exFn (X:=X1a xs at_ d at1 at2 13 a) (zaeq hn hA) rfl g⟩
 · obtain ⟨r,hr,g⟩:=zaz5 xs at_ d at1 at2 a T (by omega) ha2 d0 hd ha
   exact one ⟨r,hr,exFn (X:=X1a xs at_ d at1 at2 14 a) (zaeq hn hA) rfl g⟩
 · obtain ⟨r,hr,g⟩:=zaz3 xs at_ d at1 at2 a T (by omega) ha2 d0 hd ha
   exact one ⟨r,hr,exFn (X:=X1a xs at_ d at1 at2 15 a) (zaeq hn hA) rfl g⟩
 · obtain ⟨r,hr,g⟩:=zaz1 xs at_ d at1 at2 a T (by omega) ha2 d0 hd ha
   exact one ⟨r,hr,exFn (X:=X1a xs at_ d at1 at2 16 a) (zaeq hn hA) rfl g⟩
 · obtain ⟨r,hr,g⟩:=zazZ xs at_ d at1 at2 a T (by omega) ha2 d0 hd ha
   exact one ⟨r,hr,exFn (X:=X1a xs at_ d at1 at2 17 a) (zaeq hn hA) rfl g⟩
 · obtain ⟨v,at3,v0,v1,c1,c2,hv⟩:=zacK xs at2 3 hx (by omega) (by omega) (by decide) (by decide)
   obtain ⟨w,at4,w0,w1,e1,e2,hw⟩:=zacK xs at3 4 hx (by omega) (by omega) (by decide) (by decide)
   obtain ⟨r,hr,g⟩:=zazX xs at_ d at1 at2 at3 at4 v w a T (by omega) ha2 v0 v1 w0 w1 d0 hd ha
   exact ⟨at4,r,by omega,by omega,hr,exFn (X:=X1c xs at_ d at1 at2 at3 at4 18 v w a) (zaDz hn hv hw hA) rfl g⟩
 · obtain ⟨r,hr,g⟩:=zazV xs at_ d at1 at2 a T (by omega) ha2 d0 hd ha
   exact one ⟨r,hr,exFn (X:=X1a xs at_ d at1 at2 19 a) (zaeq hn hA) rfl g⟩
theorem zaHv (xs:List Int)(hx:okXs xs):ExOk xs 4 64 4:=zamG xs hx 4 22 0 (by decide) (by decide) (by decide) (by decide) (by decide) (fun h=>absurd h (by decide))
theorem zaHw (xs:List Int)(hx:okXs xs):ExOk xs 3 148 12:=zamG xs hx 3 64 4 (by decide) (by decide) (by decide) (by decide) (by decide) (fun _=>zaHv xs hx)
theorem zaHx (xs:List Int)(hx:okXs xs):ExOk xs 2 316 28:=zamG xs hx 2 148 12 (by decide) (by decide) (by decide) (by decide) (by decide) (fun _=>zaHw xs hx)
theorem zaHy (xs:List Int)(hx:okXs xs):ExOk xs 1 652 60:=zamG xs hx 1 316 28 (by decide) (by decide) (by decide) (by decide) (by decide) (fun _=>zaHx xs hx)
theorem zaHz (xs:List Int)(hx:okXs xs):ExOk xs 0 1324 124:=zamG xs hx 0 652 60 (by decide) (by decide) (by decide) (by decide) (by decide) (fun _=>zaHy xs hx)
def zayC (os:Orc)(xs:List Int)(at':Int)(r:ByteArray):Prop:=runF (XT.add zab6 (Sp.con [spE xs 0 0 at' r])) 12 zajK (fn zajK) (code zajK) os 0 [] [.lst false 1 (xs.map i0)] .nil ⟨s0 r,.nil,[]⟩
end
end Go.Proofs.YtpofhijgccocpaaGreatDoor
end
section
namespace Go.Proofs.YtpofhijgccocpaaGreatDoor
open Go Go.AS Go.TP
theorem zaoK (xs:List Int)(at':Int)(r:ByteArray):zayC (Orc.z) xs at' r=(let z1:=[eR 1048577 [0,0] 2 [AV.agg [L1 (List.map i0 xs),i0 0]]];U1 [AV.ptr 1048577 [0,0] 0 0,i0 0] z1 (Wk (s0 r) (s0 r)/\S0)):=by kernel_rfl
end Go.Proofs.YtpofhijgccocpaaGreatDoor
end
section
namespace Go.Proofs.YtpofhijgccocpaaGreatDoor
open Go.AS Go.TP
noncomputable section
attribute [local irreducible] runF in
theorem zavj (xs:List Int)(hx:okXs xs):∃ s,ByteArray.size s<=1324/\F zajK [.lst false 1 (xs.map i0)] (s0 s):=by
 obtain ⟨at',s,_,_,hs,hE⟩:=zaHz xs hx 0 (by decide) (by decide)
 refine ⟨s,hs,?_⟩
 refine zade (X:=XT.add zab6 (Sp.con [spE xs 0 0 at' s])) (d:=12) (os:=Orc.z) (fz:=0) (fc:=[]) (zaGx.add (zabv (s:=spE xs 0 0 at' s) (fun _ _=>hE))) (f:=zajK) (fn:=fn zajK) (code:=code zajK) (fnOk zajK (by kernel_rfl)) (show (fn zajK).body=some (code zajK) by kernel_rfl) (by kernel_rfl) ?_
 show zayC Orc.z xs at' s
 rw [zaoK]
 exact ⟨(),⟨trivial,.refl _,rfl⟩,.refl _,.rfl⟩
mutual
def encN:Nd->AV
 | .mk k a n t ks => .agg [i0 k,i0 a,i0 n,s0 t,.lst false 5 (encL ks)]
def encL:List Nd->List AV
 | []=>[]
 | n::r=>encN n::encL r
end
def encP (n:Nd):AV := .agg [i0 n.kind,i0 n.at_,i0 n.num,s0 n.text,.lst false 5 (encL n.kids)]
theorem zamN (n:Nd):encP n=encN n:=by cases n;rfl
abbrev zadZ (k a n:Int)(t:ByteArray)(ks:List AV):AV := .agg [i0 k,i0 a,i0 n,s0 t,.lst false 5 ks]
abbrev zauK:AV:=zadZ 0 0 0 ByteArray.empty []
abbrev tokV (k a:Int)(x:ByteArray):AV := .agg [i0 k,i0 a,s0 x]
abbrev nilE:AV := .lit .nilIface
def pArg:AV := .ptr 1048577 [0,0] 0 0
def zacA (ts:List AV)(d:Int):Hp:=hpL [(1048577,⟨[0,0],.row true 2 [.agg [.lst false 3 ts,i0 d]]⟩)]
def pOut (ts:List AV)(d:Int)(n e:AV):Back:=⟨.tup [n,e],zacA ts d,[1048577]⟩
def askP:List Nat:=[zacv,zafa,zad7,zaAn,zaaP,zao2,zaa8,fPChain,zaiK,zaue,zafD,zaud,fPUp,zaHu,zaiJ,zaAp,zauf,zaC7,zaAo,zaAs,fAt,zaC6,zacg]
def gP (X:WX)(f:Nat)(os:Orc)(ts ts':List AV)(d:Int)(n e:AV):Prop:=runF (X.ask askP) 14 f (fn f) (code f) os 0 [] [pArg] (zacA ts d) (pOut ts' d n e)
def spP (ts ts':List AV)(d:Int)(n e:AV):Sp:=⟨Unit,fun _=>True,fun _=>[pArg],fun _=>zacA ts d,fun _=>pOut ts' d n e⟩
def zahc (w:ByteArray)(v:Int):Sp := .pure Unit (fun _=>True) (fun _=>[s0 w]) (fun _=>i0 v)
def zaBu (w:ByteArray)(b:Bool):Sp := .pure Unit (fun _=>True) (fun _=>[s0 w]) (fun _=>b0 b)
def zaDP (t:AV)(n:Int)(b:Bool):Sp := .pure Unit (fun _=>True) (fun _=>[t]) (fun _ => .tup [i0 n,b0 b])
noncomputable def XE (ts ts':List AV)(d:Int)(n e:AV):WX:=XB.add zacv (Sp.con [spP ts ts' d n e])
def aBad (os:Orc)(k a:Int)(x:ByteArray)(r:List AV)(d:Int):Prop:=gP XB zaa8 os (tokV k a x::r) (tokV k a x::r) d zauK (zaau 15 a)
def zaGw (os:Orc)(a:Int)(x:ByteArray)(r:List AV):Prop:=gP XB zaa8 os (tokV 2 a x::r) r 24 zauK (zaau 16 a)
def zaGu (os:Orc)(a:Int)(x:ByteArray)(r:List AV)(d:Int)(q:Nd)(a':Int)(x':ByteArray)(r':List AV):Prop :=
 gP (XE r (tokV 3 a' x'::r') (d+1) (encP q) nilE) zaa8 os (tokV 2 a x::r) r' d (encP q) nilE
def zaA6 (os:Orc)(a:Int)(x:ByteArray)(r:List AV)(d:Int)(q:Nd)(k' a':Int)(x':ByteArray)(r':List AV):Prop :=
 gP (XE r (tokV k' a' x'::r') (d+1) (encP q) nilE) zaa8 os (tokV 2 a x::r) (tokV k' a' x'::r') d (encP q) (zaau 15 a')
def zaA7 (os:Orc)(a:Int)(x:ByteArray)(r:List AV)(d:Int)(q:Nd)(ek ea:Int)(ts':List AV):Prop :=
 gP (XE r ts' (d+1) (encP q) (zaau ek ea)) zaa8 os (tokV 2 a x::r) ts' d (encP q) (zaau ek ea)
def zaGv (os:Orc)(a:Int)(x:ByteArray)(k' a':Int)(x':ByteArray)(r:List AV)(d:Int):Prop :=
 gP (XB.add zaaf (Sp.con [zaBu x true])) zaa8 os (tokV 1 a x::tokV k' a' x'::r) (tokV k' a' x'::r) d (zadZ 1 a 0 x []) nilE
def zaA8 (os:Orc)(a:Int)(x:ByteArray)(k' a':Int)(x':ByteArray)(r:List AV)(d:Int):Prop :=
 gP (XB.add zaaf (Sp.con [zaBu x false])) zaa8 os (tokV 1 a x::tokV k' a' x'::r) (tokV k' a' x'::r) d zauK (zaau 15 a)
def zaBd (os:Orc)(a:Int)(x:ByteArray)(a':Int)(x':ByteArray)(r:List AV)(d:Int):Prop :=
 gP (XB.add zamF (Sp.con [zahc x 0])) zaa8 os (tokV 1 a x::tokV 2 a' x'::r) (tokV 2 a' x'::r) d zauK (zaau 15 a)
def zaB (os:Orc)(a:Int)(x:ByteArray)(v a':Int)(x':ByteArray)(r:List AV):Prop :=
 gP (XB.add zamF (Sp.con [zahc x v])) zaa8 os (tokV 1 a x::tokV 2 a' x'::r) r 24 zauK (zaau 16 a')
def zaBc (os:Orc)(a:Int)(x:ByteArray)(a':Int)(x':ByteArray)(c:Int)(y:ByteArray)(r:List AV)(d:Int):Prop :=
 gP (XB.add zamF (Sp.con [zahc x 1])) zaa8 os (tokV 1 a x::tokV 2 a' x'::tokV 3 c y::r) r d (zadZ 10 a 0 x []) nilE
def zaq7 (os:Orc)(a:Int)(x:ByteArray)(a':Int)(x':ByteArray)(kc c:Int)(y:ByteArray)(r:List AV)(d:Int):Prop :=
 gP (XB.add zamF (Sp.con [zahc x 1])) zaa8 os (tokV 1 a x::tokV 2 a' x'::tokV kc c y::r) (tokV kc c y::r) d (zadZ 10 a 0 x []) (zaau 15 c)
def XF (x:ByteArray)(v:Int)(ts ts':List AV)(d:Int)(n e:AV):WX:=(XE ts ts' d n e).add zamF (Sp.con [zahc x v])
def zaA9 (os:Orc)(a:Int)(x:ByteArray)(v a':Int)(x':ByteArray)(r:List AV)(d:Int)(q:Nd)(ek ea:Int)(ts':List AV):Prop :=
 gP (XF x v r ts' (d+1) (encP q) (zaau ek ea)) zaa8 os (tokV 1 a x::tokV 2 a' x'::r) ts' d (zadZ 10 a 0 x [encP q]) (zaau ek ea)
def zaBb (os:Orc)(a:Int)(x:ByteArray)(a':Int)(x':ByteArray)(r:List AV)(d:Int)(q:Nd)(c:Int)(y:ByteArray)(r':List AV):Prop :=
 gP (XF x 2 r (tokV 3 c y::r') (d+1) (encP q) nilE) zaa8 os (tokV 1 a x::tokV 2 a' x'::r) r' d (zadZ 10 a 0 x [encP q]) nilE
def zaq6 (os:Orc)(a:Int)(x:ByteArray)(a':Int)(x':ByteArray)(r:List AV)(d:Int)(q:Nd)(kc c:Int)(y:ByteArray)(r':List AV):Prop :=
 gP (XF x 2 r (tokV kc c y::r') (d+1) (encP q) nilE) zaa8 os (tokV 1 a x::tokV 2 a' x'::r) (tokV kc c y::r') d (zadZ 10 a 0 x [encP q]) (zaau 15 c)
def zaq5 (os:Orc)(a:Int)(x:ByteArray)(a':Int)(x':ByteArray)(r:List AV)(d:Int)(q:Nd)(kc c:Int)(y:ByteArray)(r':List AV):Prop :=
 gP (XF x 3 r (tokV kc c y::r') (d+1) (encP q) nilE) zaa8 os (tokV 1 a x::tokV 2 a' x'::r) (tokV kc c y::r') d (zadZ 10 a 0 x [encP q]) (zaau 15 c)
def XFN (x:ByteArray)(ts ts':List AV)(d:Int)(n e t:AV)(m:Int)(b:Bool):WX:=(XF x 3 ts ts' d n e).add zaaw (Sp.con [zaDP t m b])
def zaq4 (os:Orc)(a:Int)(x:ByteArray)(a':Int)(x':ByteArray)(r:List AV)(d:Int)(q:Nd)(c:Int)(y:ByteArray)(kn an:Int)(xn:ByteArray)(m:Int)(r':List AV):Prop :=
 gP (XFN x r (tokV 4 c y::tokV kn an xn::r') (d+1) (encP q) nilE (tokV kn an xn) m false) zaa8 os (tokV 1 a x::tokV 2 a' x'::r) (tokV kn an xn::r') d (zadZ 10 a 0 x [encP q]) (zaau 15 an)
def zaBa (os:Orc)(a:Int)(x:ByteArray)(a':Int)(x':ByteArray)(r:List AV)(d:Int)(q:Nd)(c:Int)(y:ByteArray)(an:Int)(xn:ByteArray)(m z:Int)(w:ByteArray)(r':List AV):Prop :=
 gP (XFN x r (tokV 4 c y::tokV 1 an xn::tokV 3 z w::r') (d+1) (encP q) nilE (tokV 1 an xn) m true) zaa8 os (tokV 1 a x::tokV 2 a' x'::r) r' d (zadZ 10 a m x [encP q]) nilE
def zaq3 (os:Orc)(a:Int)(x:ByteArray)(a':Int)(x':ByteArray)(r:List AV)(d:Int)(q:Nd)(c:Int)(y:ByteArray)(an:Int)(xn:ByteArray)(m kz z:Int)(w:ByteArray)(r':List AV):Prop :=
 gP (XFN x r (tokV 4 c y::tokV 1 an xn::tokV kz z w::r') (d+1) (encP q) nilE (tokV 1 an xn) m true) zaa8 os (tokV 1 a x::tokV 2 a' x'::r) (tokV kz z w::r') d (zadZ 10 a m x [encP q]) (zaau 15 z)
end
end Go.Proofs.YtpofhijgccocpaaGreatDoor
end
section
namespace Go.Proofs.YtpofhijgccocpaaGreatDoor
open Go Go.AS Go.TP
noncomputable abbrev zasn (a':Int) (x':ByteArray) (r:List AV) (d:Int):=(True/\Wks [AV.ptr 1048577 [0,0] 0 0] [AV.ptr 1048577 [0,0] 0 0]/\hpL [eR 1048577 [0,0] 2 [AV.agg [L3 (List.drop 1 (AV.agg [i0 2,i0 a',s0 x']::r)),i0 (d+1)]]]=hpL [eR 1048577 [0,0] 2 [AV.agg [L3 r,i0 (d+1)]]])
noncomputable abbrev zaoa (a:Int)(x:ByteArray)(a':Int)(x':ByteArray)(r:List AV):=(decide ((0:Int)<=(1:Int)/\(1:Int)<=(↑(List.length (AV.agg [i0 1,i0 a,s0 x]::AV.agg [i0 2,i0 a',s0 x']::r)):Int))&&Nat.beq 3 3)
noncomputable abbrev zadP (x:ByteArray):=(True/\Wks [s0 x] [s0 x]/\hpL []=hpL [])
noncomputable abbrev zap2 (a':Int)(x':ByteArray)(r:List AV):=(decide ((0:Int)<=(1:Int)/\(1:Int)<=(↑(List.length (AV.agg [i0 2,i0 a',s0 x']::r)):Int))&&Nat.beq 3 3)
theorem zaBe (k a:Int)(x:ByteArray)(r:List AV)(d:Int):aBad (Orc.f (Orc.f (Orc.f Orc.z))) k a x r d=(let z1:=(hpL [eR 1048577 [0,0] 2 [AV.agg [L3 (AV.agg [i0 k,i0 a,s0 x]::r),i0 d]]]);let z2:=AV.iface 118 (AV.ref (AV.agg [i0 a,AV.iface 26 (i0 15)]));(k==2)=false/\(k==1)=false/\Nf (Wk (AV.tup [AV.agg [i0 0,i0 0,i0 0,s0 ⟨⟨[]⟩⟩,AV.lit (Value.slice none 0 0)],z2]) (AV.tup [AV.agg [i0 0,i0 0,i0 0,s0 ByteArray.empty,L5 []],z2])/\SameH z1 z1)):=by kernel_rfl
def zaxh:Orc:=Orc.t (Orc.t (Orc.t (Orc.f Orc.z)))
theorem zauy (a:Int)(x:ByteArray)(r:List AV):zaGw zaxh a x r=(let z1:=AV.iface 118 (AV.ref (AV.agg [i0 a,AV.iface 26 (i0 16)]));Yt (Yt ((decide ((0:Int)<=(1:Int)/\(1:Int)<=(↑(List.length (AV.agg [i0 2,i0 a,s0 x]::r)):Int))&&true)=true/\Yt (Nf (Wk (AV.tup [AV.agg [i0 0,i0 0,i0 0,s0 ⟨⟨[]⟩⟩,AV.lit (Value.slice none 0 0)],z1]) (AV.tup [AV.agg [i0 0,i0 0,i0 0,s0 ByteArray.empty,L5 []],z1])/\SameH (hpL [eR 1048577 [0,0] 2 [AV.agg [L3 (List.drop 1 (AV.agg [i0 2,i0 a,s0 x]::r)),i0 24]]]) (hpL [eR 1048577 [0,0] 2 [AV.agg [L3 r,i0 24]]])))))):=by kernel_rfl
def zaxf:Orc:=Orc.t (Orc.t (Orc.f (Orc.f (Orc.f (Orc.t Orc.z)))))
theorem zauu (a:Int)(x:ByteArray)(r:List AV)(d:Int)(q:Nd)(a':Int)(x':ByteArray)(r':List AV):zaGu zaxf a x r d q a' x' r'=(let z1:=(AV.tup [encP q,AV.lit Value.nilIface]);let z2:=(AV.agg [i0 3,i0 a',s0 x']::r');Yt (Yt ((decide ((0:Int)<=(1:Int)/\(1:Int)<=(↑(List.length (AV.agg [i0 2,i0 a,s0 x]::r)):Int))&&Nat.beq 3 3)=true/\(d==24)=false/\inR IntKind.i64 (d+1)=true/\∃ (_:Unit),(True/\Wks [AV.ptr 1048577 [0,0] 0 0] [AV.ptr 1048577 [0,0] 0 0]/\hpL [eR 1048577 [0,0] 2 [AV.agg [L3 (List.drop 1 (AV.agg [i0 2,i0 a,s0 x]::r)),i0 (d+1)]]]=hpL [eR 1048577 [0,0] 2 [AV.agg [L3 r,i0 (d+1)]]])/\Nf (Nf (Yt ((decide ((0:Int)<=(1:Int)/\(1:Int)<=(↑(List.length z2):Int))&&Nat.beq 3 3)=true/\inR IntKind.i64 (d+1-(1:Int))=true/\Wk z1 z1/\SameH (hpL [eR 1048577 [0,0] 2 [AV.agg [L3 (List.drop 1 z2),i0 (d+1-(1:Int))]]]) (hpL [eR 1048577 [0,0] 2 [AV.agg [L3 r',i0 d]]]))))))):=by kernel_rfl
def zaqm:Orc:=Orc.t (Orc.t (Orc.f (Orc.f (Orc.t (Orc.f Orc.z)))))
theorem zapj (a:Int)(x:ByteArray)(r:List AV)(d:Int)(q:Nd)(k' a':Int)(x':ByteArray)(r':List AV):zaA6 zaqm a x r d q k' a' x' r'=(let z1:=(AV.tup [encP q,AV.iface 118 (AV.ref (AV.agg [i0 a',AV.iface 26 (i0 15)]))]);let z2:=L3 (AV.agg [i0 k',i0 a',s0 x']::r');Yt (Yt ((decide ((0:Int)<=(1:Int)/\(1:Int)<=(↑(List.length (AV.agg [i0 2,i0 a,s0 x]::r)):Int))&&Nat.beq 3 3)=true/\(d==24)=false/\inR IntKind.i64 (d+1)=true/\∃ (_:Unit),(True/\Wks [AV.ptr 1048577 [0,0] 0 0] [AV.ptr 1048577 [0,0] 0 0]/\hpL [eR 1048577 [0,0] 2 [AV.agg [L3 (List.drop 1 (AV.agg [i0 2,i0 a,s0 x]::r)),i0 (d+1)]]]=hpL [eR 1048577 [0,0] 2 [AV.agg [L3 r,i0 (d+1)]]])/\Nf ((k' != 3)=true/\Nf (inR IntKind.i64 (d+1-(1:Int))=true/\Wk z1 z1/\SameH (hpL [eR 1048577 [0,0] 2 [AV.agg [z2,i0 (d+1-(1:Int))]]]) (hpL [eR 1048577 [0,0] 2 [AV.agg [z2,i0 d]]])))))):=by kernel_rfl
def zaqn:Orc:=Orc.t (Orc.t (Orc.f (Orc.t Orc.z)))
theorem zapl (a:Int)(x:ByteArray)(r:List AV)(d:Int)(q:Nd)(ek ea:Int)(ts':List AV):zaA7 zaqn a x r d q ek ea ts'=(let z1:=(AV.tup [encP q,AV.iface 118 (AV.ref (AV.agg [i0 ea,AV.iface 26 (i0 ek)]))]);Yt (Yt ((decide ((0:Int)<=(1:Int)/\(1:Int)<=(↑(List.length (AV.agg [i0 2,i0 a,s0 x]::r)):Int))&&Nat.beq 3 3)=true/\(d==24)=false/\inR IntKind.i64 (d+1)=true/\∃ (_:Unit),(True/\Wks [AV.ptr 1048577 [0,0] 0 0] [AV.ptr 1048577 [0,0] 0 0]/\hpL [eR 1048577 [0,0] 2 [AV.agg [L3 (List.drop 1 (AV.agg [i0 2,i0 a,s0 x]::r)),i0 (d+1)]]]=hpL [eR 1048577 [0,0] 2 [AV.agg [L3 r,i0 (d+1)]]])/\Yt (inR IntKind.i64 (d+1-(1:Int))=true/\Wk z1 z1/\SameH (hpL [eR 1048577 [0,0] 2 [AV.agg [L3 ts',i0 (d+1-(1:Int))]]]) (hpL [eR 1048577 [0,0] 2 [AV.agg [L3 ts',i0 d]]]))))):=by kernel_rfl
def zaxg:Orc:=Orc.f (Orc.t (Orc.t (Orc.f (Orc.f Orc.z))))
theorem zauw (a:Int)(x:ByteArray)(k' a':Int)(x':ByteArray)(r:List AV)(d:Int):zaGv zaxg a x k' a' x' r d=(let z1:=(hpL [eR 1048577 [0,0] 2 [AV.agg [L3 (AV.agg [i0 k',i0 a',s0 x']::r),i0 d]]]);Nf (Yt (Yt ((decide ((0:Int)<=(1:Int)/\(1:Int)<=(↑(List.length (AV.agg [i0 1,i0 a,s0 x]::AV.agg [i0 k',i0 a',s0 x']::r)):Int))&&Nat.beq 3 3)=true/\(k'==2)=false/\∃ (_:Unit),(zadP x)/\Nf (Wk (AV.tup [AV.agg [i0 1,i0 a,i0 0,s0 x,AV.lit (Value.slice none 0 0)],AV.lit Value.nilIface]) (AV.tup [AV.agg [i0 1,i0 a,i0 0,s0 x,L5 []],AV.lit Value.nilIface])/\SameH z1 z1))))):=by kernel_rfl
def zaqo:Orc:=Orc.f (Orc.t (Orc.t (Orc.f (Orc.t (Orc.f Orc.z)))))
theorem zapn (a:Int)(x:ByteArray)(k' a':Int)(x':ByteArray)(r:List AV)(d:Int):zaA8 zaqo a x k' a' x' r d=(let z1:=(hpL [eR 1048577 [0,0] 2 [AV.agg [L3 (AV.agg [i0 k',i0 a',s0 x']::r),i0 d]]]);let z2:=AV.iface 118 (AV.ref (AV.agg [i0 a,AV.iface 26 (i0 15)]));Nf (Yt (Yt ((decide ((0:Int)<=(1:Int)/\(1:Int)<=(↑(List.length (AV.agg [i0 1,i0 a,s0 x]::AV.agg [i0 k',i0 a',s0 x']::r)):Int))&&Nat.beq 3 3)=true/\(k'==2)=false/\∃ (_:Unit),(zadP x)/\Yt (Nf (Wk (AV.tup [AV.agg [i0 0,i0 0,i0 0,s0 ⟨⟨[]⟩⟩,AV.lit (Value.slice none 0 0)],z2]) (AV.tup [AV.agg [i0 0,i0 0,i0 0,s0 ByteArray.empty,L5 []],z2])/\SameH z1 z1)))))):=by kernel_rfl
def zaqu:Orc:=Orc.f (HT (Orc.f Orc.z))
theorem zapz (a:Int)(x:ByteArray)(a':Int)(x':ByteArray)(r:List AV)(d:Int):zaBd zaqu a x a' x' r d=(let z1:=(hpL [eR 1048577 [0,0] 2 [AV.agg [L3 (AV.agg [i0 2,i0 a',s0 x']::r),i0 d]]]);let z2:=AV.iface 118 (AV.ref (AV.agg [i0 a,AV.iface 26 (i0 15)]));Nf (Yt (Yt ((zaoa a x a' x' r)=true/\Yt (∃ (_:Unit),(zadP x)/\Yt (Nf (Wk (AV.tup [AV.agg [i0 0,i0 0,i0 0,s0 ⟨⟨[]⟩⟩,AV.lit (Value.slice none 0 0)],z2]) (AV.tup [AV.agg [i0 0,i0 0,i0 0,s0 ByteArray.empty,L5 []],z2])/\SameH z1 z1))))))):=by kernel_rfl
def zaqq:Orc:=Orc.f (Orc.t (Orc.t (Orc.t (Orc.f (Orc.t (Orc.t (Orc.f Orc.z)))))))
theorem zapr (a:Int)(x:ByteArray)(v a':Int)(x':ByteArray)(r:List AV):zaB zaqq a x v a' x' r=(let z1:=AV.iface 118 (AV.ref (AV.agg [i0 a',AV.iface 26 (i0 16)]));Nf (Yt (Yt ((zaoa a x a' x' r)=true/\Yt (∃ (_:Unit),(zadP x)/\(v==0)=false/\Yt ((zap2 a' x' r)=true/\Yt (Nf (Wk (AV.tup [AV.agg [i0 0,i0 0,i0 0,s0 ⟨⟨[]⟩⟩,AV.lit (Value.slice none 0 0)],z1]) (AV.tup [AV.agg [i0 0,i0 0,i0 0,s0 ByteArray.empty,L5 []],z1])/\SameH (hpL [eR 1048577 [0,0] 2 [AV.agg [L3 (List.drop 1 (AV.agg [i0 2,i0 a',s0 x']::r)),i0 24]]]) (hpL [eR 1048577 [0,0] 2 [AV.agg [L3 r,i0 24]]]))))))))):=by kernel_rfl
def zaqt:Orc:=Orc.f (Orc.t (Orc.t (Orc.t (Orc.f (Orc.t (Orc.f (Orc.t (Orc.f (Orc.f (Orc.t Orc.z))))))))))
theorem zapx (a:Int)(x:ByteArray)(a':Int)(x':ByteArray)(c:Int)(y:ByteArray)(r:List AV)(d:Int):zaBc zaqt a x a' x' c y r d=(let z1:=[i0 3,i0 c,s0 y];Nf (Yt (Yt ((decide ((0:Int)<=(1:Int)/\(1:Int)<=(↑(List.length (AV.agg [i0 1,i0 a,s0 x]::AV.agg [i0 2,i0 a',s0 x']::AV.agg z1::r)):Int))&&Nat.beq 3 3)=true/\Yt (∃ (_:Unit),(zadP x)/\Nf (Yt ((decide ((0:Int)<=(1:Int)/\(1:Int)<=(↑(List.length (AV.agg [i0 2,i0 a',s0 x']::AV.agg z1::r)):Int))&&Nat.beq 3 3)=true/\(d==24)=false/\inR IntKind.i64 (d+1)=true/\∃ (_:Unit),(zadP x)/\Yt (Nf (Nf (Yt ((decide ((0:Int)<=(1:Int)/\(1:Int)<=(↑(List.length (AV.agg z1::r)):Int))&&Nat.beq 3 3)=true/\inR IntKind.i64 (d+1-(1:Int))=true/\Wk (AV.tup [AV.agg [i0 10,i0 a,i0 0,s0 x,AV.lit (Value.slice none 0 0)],AV.lit Value.nilIface]) (AV.tup [AV.agg [i0 10,i0 a,i0 0,s0 x,L5 []],AV.lit Value.nilIface])/\SameH (hpL [eR 1048577 [0,0] 2 [AV.agg [L3 (List.drop 1 (AV.agg z1::r)),i0 (d+1-(1:Int))]]]) (hpL [eR 1048577 [0,0] 2 [AV.agg [L3 r,i0 d]]])))))))))))):=by kernel_rfl
def zal2:Orc:=Orc.f (Orc.t (Orc.t (Orc.t (Orc.f (Orc.t (Orc.f (Orc.t (Orc.f (Orc.t (Orc.f Orc.z))))))))))
theorem zanj (a:Int)(x:ByteArray)(a':Int)(x':ByteArray)(kc c:Int)(y:ByteArray)(r:List AV)(d:Int):zaq7 zal2 a x a' x' kc c y r d=(let z1:=AV.iface 118 (AV.ref (AV.agg [i0 c,AV.iface 26 (i0 15)]));let z2:=[i0 kc,i0 c,s0 y];Nf (Yt (Yt ((decide ((0:Int)<=(1:Int)/\(1:Int)<=(↑(List.length (AV.agg [i0 1,i0 a,s0 x]::AV.agg [i0 2,i0 a',s0 x']::AV.agg z2::r)):Int))&&Nat.beq 3 3)=true/\Yt (∃ (_:Unit),(zadP x)/\Nf (Yt ((decide ((0:Int)<=(1:Int)/\(1:Int)<=(↑(List.length (AV.agg [i0 2,i0 a',s0 x']::AV.agg z2::r)):Int))&&Nat.beq 3 3)=true/\(d==24)=false/\inR IntKind.i64 (d+1)=true/\∃ (_:Unit),(zadP x)/\Yt (Nf ((kc != 3)=true/\Nf (inR IntKind.i64 (d+1-(1:Int))=true/\Wk (AV.tup [AV.agg [i0 10,i0 a,i0 0,s0 x,AV.lit (Value.slice none 0 0)],z1]) (AV.tup [AV.agg [i0 10,i0 a,i0 0,s0 x,L5 []],z1])/\SameH (hpL [eR 1048577 [0,0] 2 [AV.agg [L3 (AV.agg z2::r),i0 (d+1-(1:Int))]]]) (hpL [eR 1048577 [0,0] 2 [AV.agg [L3 (AV.agg z2::r),i0 d]]]))))))))))):=by kernel_rfl
def zaqp:Orc:=Orc.f (Orc.t (Orc.t (Orc.t (Orc.f (Orc.t (Orc.f (Orc.f (HT (Orc.t (Orc.t Orc.z))))))))))
theorem zapp (a:Int)(x:ByteArray)(v a':Int)(x':ByteArray)(r:List AV)(d:Int)(q:Nd)(ek ea:Int)(ts':List AV):zaA9 zaqp a x v a' x' r d q ek ea ts'=(let z1:=AV.iface 118 (AV.ref (AV.agg [i0 ea,AV.iface 26 (i0 ek)]));Nf (Yt (Yt ((zaoa a x a' x' r)=true/\Yt (∃ (_:Unit),(zadP x)/\(v==0)=false/\Yt ((zap2 a' x' r)=true/\(d==24)=false/\inR IntKind.i64 (d+1)=true/\∃ (_:Unit),(zadP x)/\(v==1)=false/\∃ (_:Unit),(zasn a' x' r d)/\Yt4 (Yt (Yt (inR IntKind.i64 (d+1-(1:Int))=true/\Wk (AV.tup [AV.agg [i0 10,i0 a,i0 0,s0 x,AV.lst true 5 [encP q]],z1]) (AV.tup [AV.agg [i0 10,i0 a,i0 0,s0 x,L5 [encP q]],z1])/\SameH (hpL [eR 1048577 [0,0] 2 [AV.agg [L3 ts',i0 (d+1-(1:Int))]]]) (hpL [eR 1048577 [0,0] 2 [AV.agg [L3 ts',i0 d]]])))))))))):=by kernel_rfl
def zaqs:Orc:=Orc.f (Orc.t (Orc.t (Orc.t (Orc.f (Orc.t (HF (Orc.f (Orc.f (Orc.t (Orc.f (Orc.f (Orc.t Orc.z))))))))))))
theorem zapv (a:Int)(x:ByteArray)(a':Int)(x':ByteArray)(r:List AV)(d:Int)(q:Nd)(c:Int)(y:ByteArray)(r':List AV):zaBb zaqs a x a' x' r d q c y r'=(Nf (Yt (Yt ((zaoa a x a' x' r)=true/\Yt (∃ (_:Unit),(zadP x)/\Nf (Yt ((zap2 a' x' r)=true/\(d==24)=false/\inR IntKind.i64 (d+1)=true/\∃ (_:Unit),(zadP x)/\Nf (∃ (_:Unit),(zasn a' x' r d)/\Nf (Nf (Nf (∃ (_:Unit),(zadP x)/\Nf (Yt (Nf (Nf (Yt ((decide ((0:Int)<=(1:Int)/\(1:Int)<=(↑(List.length (AV.agg [i0 3,i0 c,s0 y]::r')):Int))&&Nat.beq 3 3)=true/\inR IntKind.i64 (d+1-(1:Int))=true/\Wk (AV.tup [AV.agg [i0 10,i0 a,i0 0,s0 x,AV.lst true 5 [encP q]],AV.lit Value.nilIface]) (AV.tup [AV.agg [i0 10,i0 a,i0 0,s0 x,L5 [encP q]],AV.lit Value.nilIface])/\SameH (hpL [eR 1048577 [0,0] 2 [AV.agg [L3 (List.drop 1 (AV.agg [i0 3,i0 c,s0 y]::r')),i0 (d+1-(1:Int))]]]) (hpL [eR 1048577 [0,0] 2 [AV.agg [L3 r',i0 d]]]))))))))))))))))):=by kernel_rfl
def zal1:Orc:=Orc.f (Orc.t (Orc.t (Orc.t (Orc.f (Orc.t (HF (Orc.f (Orc.f (Orc.t (Orc.f (Orc.t (Orc.f Orc.z))))))))))))
theorem zanh (a:Int)(x:ByteArray)(a':Int)(x':ByteArray)(r:List AV)(d:Int)(q:Nd)(kc c:Int)(y:ByteArray)(r':List AV):zaq6 zal1 a x a' x' r d q kc c y r'=(let z1:=AV.iface 118 (AV.ref (AV.agg [i0 c,AV.iface 26 (i0 15)]));let z2:=L3 (AV.agg [i0 kc,i0 c,s0 y]::r');Nf (Yt (Yt ((zaoa a x a' x' r)=true/\Yt (∃ (_:Unit),(zadP x)/\Nf (Yt ((zap2 a' x' r)=true/\(d==24)=false/\inR IntKind.i64 (d+1)=true/\∃ (_:Unit),(zadP x)/\Nf (∃ (_:Unit),(zasn a' x' r d)/\Nf (Nf (Nf (∃ (_:Unit),(zadP x)/\Nf (Yt (Nf ((kc != 3)=true/\Nf (inR IntKind.i64 (d+1-(1:Int))=true/\Wk (AV.tup [AV.agg [i0 10,i0 a,i0 0,s0 x,AV.lst true 5 [encP q]],z1]) (AV.tup [AV.agg [i0 10,i0 a,i0 0,s0 x,L5 [encP q]],z1])/\SameH (hpL [eR 1048577 [0,0] 2 [AV.agg [z2,i0 (d+1-(1:Int))]]]) (hpL [eR 1048577 [0,0] 2 [AV.agg [z2,i0 d]]])))))))))))))))):=by kernel_rfl
def zal0:Orc:=Orc.f (Orc.t (Orc.t (Orc.t (Orc.f (Orc.t (HF (Orc.f (Orc.f (Orc.f (Orc.t (Orc.f (Orc.t (Orc.t Orc.z)))))))))))))
theorem zanf (a:Int)(x:ByteArray)(a':Int)(x':ByteArray)(r:List AV)(d:Int)(q:Nd)(kc c:Int)(y:ByteArray)(r':List AV):zaq5 zal0 a x a' x' r d q kc c y r'=(let z1:=AV.iface 118 (AV.ref (AV.agg [i0 c,AV.iface 26 (i0 15)]));let z2:=L3 (AV.agg [i0 kc,i0 c,s0 y]::r');Nf (Yt (Yt ((zaoa a x a' x' r)=true/\Yt (∃ (_:Unit),(zadP x)/\Nf (Yt ((zap2 a' x' r)=true/\(d==24)=false/\inR IntKind.i64 (d+1)=true/\∃ (_:Unit),(zadP x)/\Nf (∃ (_:Unit),(zasn a' x' r d)/\Nf (Nf (Nf (∃ (_:Unit),(zadP x)/\Nf (Nf ((kc != 4)=true/\Nf (Yt (Yt (inR IntKind.i64 (d+1-(1:Int))=true/\Wk (AV.tup [AV.agg [i0 10,i0 a,i0 0,s0 x,AV.lst true 5 [encP q]],z1]) (AV.tup [AV.agg [i0 10,i0 a,i0 0,s0 x,L5 [encP q]],z1])/\SameH (hpL [eR 1048577 [0,0] 2 [AV.agg [z2,i0 (d+1-(1:Int))]]]) (hpL [eR 1048577 [0,0] 2 [AV.agg [z2,i0 d]]]))))))))))))))))):=by kernel_rfl
def zalZ:Orc:=Orc.f (Orc.t (Orc.t (Orc.t (Orc.f (Orc.t (HF (HF (Orc.t (Orc.f (Orc.t (Orc.t Orc.z)))))))))))
theorem zand (a:Int)(x:ByteArray)(a':Int)(x':ByteArray)(r:List AV)(d:Int)(q:Nd)(c:Int)(y:ByteArray)(kn an:Int)(xn:ByteArray)(m:Int)(r':List AV):zaq4 zalZ a x a' x' r d q c y kn an xn m r'=(let z1:=[i0 kn,i0 an,s0 xn];let z2:=AV.iface 118 (AV.ref (AV.agg [i0 an,AV.iface 26 (i0 15)]));Nf (Yt (Yt ((zaoa a x a' x' r)=true/\Yt (∃ (_:Unit),(zadP x)/\Nf (Yt ((zap2 a' x' r)=true/\(d==24)=false/\inR IntKind.i64 (d+1)=true/\∃ (_:Unit),(zadP x)/\Nf (∃ (_:Unit),(zasn a' x' r d)/\Nf (Nf (Nf (∃ (_:Unit),(zadP x)/\Nf (Nf (Nf (Yt ((decide ((0:Int)<=(1:Int)/\(1:Int)<=(↑(List.length (AV.agg [i0 4,i0 c,s0 y]::AV.agg z1::r')):Int))&&Nat.beq 3 3)=true/\Nf (U1 [AV.agg z1] [] (Yt (Yt (inR IntKind.i64 (d+1-(1:Int))=true/\Wk (AV.tup [AV.agg [i0 10,i0 a,i0 0,s0 x,AV.lst true 5 [encP q]],z2]) (AV.tup [AV.agg [i0 10,i0 a,i0 0,s0 x,L5 [encP q]],z2])/\SameH (hpL [eR 1048577 [0,0] 2 [AV.agg [L3 (AV.agg z1::r'),i0 (d+1-(1:Int))]]]) (hpL [eR 1048577 [0,0] 2 [AV.agg [L3 (AV.agg z1::r'),i0 d]]])))))))))))))))))))):=by kernel_rfl
def zaqr:Orc:=Orc.f (Orc.t (Orc.t (Orc.t (Orc.f (Orc.t (HF (HF (Orc.t (Orc.f (Orc.f (Orc.t (Orc.f (Orc.f (Orc.t Orc.z))))))))))))))
theorem zapt (a:Int)(x:ByteArray)(a':Int)(x':ByteArray)(r:List AV)(d:Int)(q:Nd)(c:Int)(y:ByteArray)(an:Int)(xn:ByteArray)(m z:Int)(w:ByteArray)(r':List AV):zaBa zaqr a x a' x' r d q c y an xn m z w r'=(let z1:=[i0 1,i0 an,s0 xn];let z2:=[i0 3,i0 z,s0 w];Nf (Yt (Yt ((zaoa a x a' x' r)=true/\Yt (∃ (_:Unit),(zadP x)/\Nf (Yt ((zap2 a' x' r)=true/\(d==24)=false/\inR IntKind.i64 (d+1)=true/\∃ (_:Unit),(zadP x)/\Nf (∃ (_:Unit),(zasn a' x' r d)/\Nf (Nf (Nf (∃ (_:Unit),(zadP x)/\Nf (Nf (Nf (Yt ((decide ((0:Int)<=(1:Int)/\(1:Int)<=(↑(List.length (AV.agg [i0 4,i0 c,s0 y]::AV.agg z1::AV.agg z2::r')):Int))&&Nat.beq 3 3)=true/\Nf (U1 [AV.agg z1] [] (Nf (Yt ((decide ((0:Int)<=(1:Int)/\(1:Int)<=(↑(List.length (AV.agg z1::AV.agg z2::r')):Int))&&Nat.beq 3 3)=true/\Nf (Nf (Yt ((decide ((0:Int)<=(1:Int)/\(1:Int)<=(↑(List.length (AV.agg z2::r')):Int))&&Nat.beq 3 3)=true/\inR IntKind.i64 (d+1-(1:Int))=true/\Wk (AV.tup [AV.agg [i0 10,i0 a,i0 m,s0 x,AV.lst true 5 [encP q]],AV.lit Value.nilIface]) (AV.tup [AV.agg [i0 10,i0 a,i0 m,s0 x,L5 [encP q]],AV.lit Value.nilIface])/\SameH (hpL [eR 1048577 [0,0] 2 [AV.agg [L3 (List.drop 1 (AV.agg z2::r')),i0 (d+1-(1:Int))]]]) (hpL [eR 1048577 [0,0] 2 [AV.agg [L3 r',i0 d]]]))))))))))))))))))))))):=by kernel_rfl
def zalY:Orc:=Orc.f (Orc.t (Orc.t (Orc.t (Orc.f (Orc.t (HF (HF (Orc.t (Orc.f (Orc.f (Orc.t (Orc.f (Orc.t (Orc.f Orc.z))))))))))))))
theorem zanb (a:Int)(x:ByteArray)(a':Int)(x':ByteArray)(r:List AV)(d:Int)(q:Nd)(c:Int)(y:ByteArray)(an:Int)(xn:ByteArray)(m kz z:Int)(w:ByteArray)(r':List AV):zaq3 zalY a x a' x' r d q c y an xn m kz z w r'=(let z1:=AV.iface 118 (AV.ref (AV.agg [i0 z,AV.iface 26 (i0 15)]));let z2:=[i0 1,i0 an,s0 xn];let z3:=[i0 kz,i0 z,s0 w];Nf (Yt (Yt ((zaoa a x a' x' r)=true/\Yt (∃ (_:Unit),(zadP x)/\Nf (Yt ((zap2 a' x' r)=true/\(d==24)=false/\inR IntKind.i64 (d+1)=true/\∃ (_:Unit),(zadP x)/\Nf (∃ (_:Unit),(zasn a' x' r d)/\Nf (Nf (Nf (∃ (_:Unit),(zadP x)/\Nf (Nf (Nf (Yt ((decide ((0:Int)<=(1:Int)/\(1:Int)<=(↑(List.length (AV.agg [i0 4,i0 c,s0 y]::AV.agg z2::AV.agg z3::r')):Int))&&Nat.beq 3 3)=true/\Nf (U1 [AV.agg z2] [] (Nf (Yt ((decide ((0:Int)<=(1:Int)/\(1:Int)<=(↑(List.length (AV.agg z2::AV.agg z3::r')):Int))&&Nat.beq 3 3)=true/\Nf ((kz != 3)=true/\Nf (inR IntKind.i64 (d+1-(1:Int))=true/\Wk (AV.tup [AV.agg [i0 10,i0 a,i0 m,s0 x,AV.lst true 5 [encP q]],z1]) (AV.tup [AV.agg [i0 10,i0 a,i0 m,s0 x,L5 [encP q]],z1])/\SameH (hpL [eR 1048577 [0,0] 2 [AV.agg [L3 (AV.agg z3::r'),i0 (d+1-(1:Int))]]]) (hpL [eR 1048577 [0,0] 2 [AV.agg [L3 (AV.agg z3::r'),i0 d]]])))))))))))))))))))))):=by kernel_rfl
end Go.Proofs.YtpofhijgccocpaaGreatDoor
end
section
namespace Go.Proofs.YtpofhijgccocpaaGreatDoor
open Go.AS Go.TP
noncomputable section
noncomputable def XA (ts ts':List AV)(d:Int)(n e:AV):WX:=XB.add zaa8 (Sp.con [spP ts ts' d n e])
noncomputable def XAA (ts ts':List AV)(d:Int)(n e:AV)(us us':List AV)(d2:Int)(n2 e2:AV):WX:=XB.add zaa8 (Sp.con [spP ts ts' d n e,spP us us' d2 n2 e2])
abbrev E0:ByteArray:=ByteArray.empty
def zaFz (os:Orc)(a:Int)(x:ByteArray)(r:List AV)(d:Int):Prop:=runF (XB.ask askP) 14 zafD (fn zafD) (code zafD) os 0 [] [pArg] (zacA (tokV 5 a x::r) d) ⟨tokV 5 a x,zacA r d,[1048577]⟩
def gUp (X:WX)(os:Orc)(a:Int)(x:ByteArray)(r ts':List AV)(d:Int)(n e:AV):Prop:=runF (X.ask askP) 14 fPUp (fn fPUp) (code fPUp) os 0 [] [pArg,tokV 5 a x] (zacA r d) (pOut ts' d n e)
def uD (os:Orc)(a:Int)(x:ByteArray)(r:List AV):Prop:=gUp XB os a x r r 24 (zadZ 6 a 0 E0 []) (zaau 16 a)
def uN (os:Orc)(a:Int)(x:ByteArray)(r:List AV)(d:Int)(q:Nd)(ts':List AV):Prop:=gUp (XA r ts' (d+1) (encP q) nilE) os a x r ts' d (zadZ 6 a 0 E0 [encP q]) nilE
def uE (os:Orc)(a:Int)(x:ByteArray)(r:List AV)(d:Int)(q:Nd)(ek ea:Int)(ts':List AV):Prop:=gUp (XA r ts' (d+1) (encP q) (zaau ek ea)) os a x r ts' d (zadZ 6 a 0 E0 [encP q]) (zaau ek ea)
def zavs (a:Int)(x:ByteArray)(r:List AV)(d:Int):Sp:=⟨Unit,fun _=>True,fun _=>[pArg],fun _=>zacA (tokV 5 a x::r) d,fun _=>⟨tokV 5 a x,zacA r d,[1048577]⟩⟩
def spUp (a:Int)(x:ByteArray)(r ts':List AV)(d:Int)(n e:AV):Sp:=⟨Unit,fun _=>True,fun _=>[pArg,tokV 5 a x],fun _=>zacA r d,fun _=>pOut ts' d n e⟩
noncomputable def XU (a:Int)(x:ByteArray)(r ts':List AV)(d:Int)(n e:AV):WX:=(XB.add zafD (Sp.con [zavs a x r d])).add fPUp (Sp.con [spUp a x r ts' d n e])
def rUpN (os:Orc)(a:Int)(x:ByteArray)(r:List AV)(d:Int)(q:Nd)(ts':List AV):Prop:=gP (XU a x r ts' d (encP q) nilE) zaaP os (tokV 5 a x::r) ts' d (encP q) nilE
def rUpE (os:Orc)(a:Int)(x:ByteArray)(r:List AV)(d:Int)(q:Nd)(ek ea:Int)(ts':List AV):Prop:=gP (XU a x r ts' d (encP q) (zaau ek ea)) zaaP os (tokV 5 a x::r) ts' d (encP q) (zaau ek ea)
def rAtE (os:Orc)(k a:Int)(x:ByteArray)(r:List AV)(d:Int)(q:Nd)(ek ea:Int)(ts':List AV):Prop:=gP (XA (tokV k a x::r) ts' d (encP q) (zaau ek ea)) zaaP os (tokV k a x::r) ts' d (encP q) (zaau ek ea)
def rAt0 (os:Orc)(k a:Int)(x:ByteArray)(r:List AV)(d:Int)(q:Nd)(k' a':Int)(x':ByteArray)(r':List AV):Prop :=
 gP (XA (tokV k a x::r) (tokV k' a' x'::r') d (encP q) nilE) zaaP os (tokV k a x::r) (tokV k' a' x'::r') d (encP q) nilE
def zaEe (os:Orc)(k a:Int)(x:ByteArray)(r:List AV)(q:Nd)(a':Int)(x':ByteArray)(r':List AV):Prop :=
 gP (XA (tokV k a x::r) (tokV 5 a' x'::r') 24 (encP q) nilE) zaaP os (tokV k a x::r) r' 24 (zadZ 8 a' 0 E0 [encP q]) (zaau 16 a')
def zaEd (os:Orc)(k a:Int)(x:ByteArray)(r:List AV)(d:Int)(q:Nd)(a':Int)(x':ByteArray)(k2 a2:Int)(x2:ByteArray)(r':List AV):Prop :=
 gP (XA (tokV k a x::r) (tokV 5 a' x'::tokV k2 a2 x2::r') d (encP q) nilE) zaaP os (tokV k a x::r) (tokV k2 a2 x2::r') d (zadZ 7 a' 0 E0 [encP q]) nilE
def gP1 (X:WX)(f:Nat)(os:Orc)(ts ts':List AV)(d:Int)(n e:AV):Prop:=runF (X.ask askP) 14 f (fn f) (code f) os 1 [] [pArg] (zacA ts d) (pOut ts' d n e)
def rBet (os:Orc)(k a:Int)(x:ByteArray)(r:List AV)(d:Int)(q:Nd)(a':Int)(x':ByteArray)(k2 a2:Int)(x2:ByteArray)(r':List AV)(q2:Nd)(e2:AV)(ts':List AV):Prop :=
 gP1 (XAA (tokV k a x::r) (tokV 5 a' x'::tokV k2 a2 x2::r') d (encP q) nilE (tokV k2 a2 x2::r') ts' (d+1) (encP q2) e2) zaaP os (tokV k a x::r) ts' d (zadZ 8 a' 0 E0 [encP q,encP q2]) e2
def zawo (os:Orc)(k a:Int)(x:ByteArray)(r:List AV)(d:Int)(q:Nd)(a':Int)(x':ByteArray)(a2:Int)(x2:ByteArray)(r':List AV)(q2:Nd)(ts':List AV):Prop:=rBet os k a x r d q a' x' 2 a2 x2 r' q2 nilE ts'
def zawp (os:Orc)(k a:Int)(x:ByteArray)(r:List AV)(d:Int)(q:Nd)(a':Int)(x':ByteArray)(a2:Int)(x2:ByteArray)(r':List AV)(q2:Nd)(ek ea:Int)(ts':List AV):Prop:=rBet os k a x r d q a' x' 2 a2 x2 r' q2 (zaau ek ea) ts'
def zawq (os:Orc)(k a:Int)(x:ByteArray)(r:List AV)(d:Int)(q:Nd)(a':Int)(x':ByteArray)(a2:Int)(x2:ByteArray)(r':List AV)(q2:Nd)(ts':List AV):Prop:=rBet os k a x r d q a' x' 1 a2 x2 r' q2 nilE ts'
def zawr (os:Orc)(k a:Int)(x:ByteArray)(r:List AV)(d:Int)(q:Nd)(a':Int)(x':ByteArray)(a2:Int)(x2:ByteArray)(r':List AV)(q2:Nd)(ek ea:Int)(ts':List AV):Prop:=rBet os k a x r d q a' x' 1 a2 x2 r' q2 (zaau ek ea) ts'
def zaD0 (os:Orc)(k a:Int)(x:ByteArray)(r:List AV)(d:Int)(q:Nd)(a':Int)(x':ByteArray)(r':List AV)(q2:Nd)(e2:AV)(ts':List AV):Prop :=
 gP1 (XAA (tokV k a x::r) (tokV 6 a' x'::r') d (encP q) nilE r' ts' d (encP q2) e2) zaaP os (tokV k a x::r) ts' d (zadZ 9 a' 0 E0 [encP q,encP q2]) e2
def zavT (os:Orc)(k a:Int)(x:ByteArray)(r:List AV)(d:Int)(q:Nd)(a':Int)(x':ByteArray)(r':List AV)(q2:Nd)(ts':List AV):Prop:=zaD0 os k a x r d q a' x' r' q2 nilE ts'
def zavU (os:Orc)(k a:Int)(x:ByteArray)(r:List AV)(d:Int)(q:Nd)(a':Int)(x':ByteArray)(r':List AV)(q2:Nd)(ek ea:Int)(ts':List AV):Prop:=zaD0 os k a x r d q a' x' r' q2 (zaau ek ea) ts'
def zaDK (os:Orc)(a:Int)(x:ByteArray)(r:List AV):Prop:=gP XB zad7 os (tokV 10 a x::r) r 24 (zadZ 5 a 0 E0 []) (zaau 16 a)
def tNot (os:Orc)(a:Int)(x:ByteArray)(r:List AV)(d:Int)(q:Nd)(e:AV)(ts':List AV):Prop :=
 gP (XB.add zad7 (Sp.con [spP r ts' (d+1) (encP q) e])) zad7 os (tokV 10 a x::r) ts' d (zadZ 5 a 0 E0 [encP q]) e
def zaDI (os:Orc)(a:Int)(x:ByteArray)(r:List AV)(d:Int)(q:Nd)(ts':List AV):Prop:=tNot os a x r d q nilE ts'
def zaDJ (os:Orc)(a:Int)(x:ByteArray)(r:List AV)(d:Int)(q:Nd)(ek ea:Int)(ts':List AV):Prop:=tNot os a x r d q (zaau ek ea) ts'
def tRan (os:Orc)(k a:Int)(x:ByteArray)(r:List AV)(d:Int)(q:Nd)(e:AV)(ts':List AV):Prop :=
 gP (XB.add zaaP (Sp.con [spP (tokV k a x::r) ts' d (encP q) e])) zad7 os (tokV k a x::r) ts' d (encP q) e
def zaDG (os:Orc)(k a:Int)(x:ByteArray)(r:List AV)(d:Int)(q:Nd)(ts':List AV):Prop:=tRan os k a x r d q nilE ts'
def zaDH (os:Orc)(k a:Int)(x:ByteArray)(r:List AV)(d:Int)(q:Nd)(ek ea:Int)(ts':List AV):Prop:=tRan os k a x r d q (zaau ek ea) ts'
structure Ch where
 f:Nat
 ks:List Value
 vs:List AV
abbrev chE:Ch:=⟨zafa,[.int .i64 7,.int .i64 8],[i0 2,i0 3]⟩
abbrev chT:Ch:=⟨zad7,[.int .i64 9],[i0 4]⟩
def zaiU (c:Ch)(e:AV):List AV:=[.ptr 1048580 [3,0] 0 0,.mp 1048579 [2,0],.fn (.func c.f) [.ptr 1048580 [3,0] 0 0] [],.ptr 1048578 [1,0] 0 0,.ptr 1048577 [0,0] 0 0,e]
def zah2 (c:Ch)(ts:List AV)(d:Int)(n:AV):Hp:=hpL [(1048579,⟨[2,0],.map true c.ks c.vs⟩),(1048577,⟨[0,0],.row true 5 [n]⟩),
 (1048580,⟨[3,0],.row true 2 [.agg [.lst false 3 ts,i0 d]]⟩),(1048578,⟨[1,0],.row true 5 [.agg [i0 0,i0 0,i0 0,s0 E0,.lit (.slice none 0 0)]]⟩)]
def cOut (c:Ch)(ts:List AV)(d:Int)(n e:AV):Ex × Back:=(.exit 0,⟨.tup [.ptr 1048578 [1,0] 0 0,.ptr 1048577 [0,0] 0 0,e],zah2 c ts d n,[1048577,1048580]⟩)
abbrev lpCh (c:Ch)(P:Prop)(ts:List AV)(d:Int)(n e:AV)(r:Ex × Back):Lp:=Lp1W [0,1,2,6,8,9] [] (fun _=>[6,8,9]) P (zaiU c e) (zah2 c ts d n) r
noncomputable def XC (c:Ch)(ts ts':List AV)(d:Int)(n e:AV):WX:=XB.add c.f (Sp.con [spP ts ts' d n e])
def rCh (X:WX)(os:Orc)(c:Ch)(P:Prop)(ts:List AV)(d:Int)(n e:AV)(us:List AV)(n' e':AV)(r' r:Ex × Back):Prop :=
 runL (X.ask (fPChain::askP)) 14 fPChain (fn fPChain).ntmps (zaaX (code fPChain) 0) (lpCh c P us d n' e' r') (lpCh c P us d n' e' r') os 0 [] (zaiU c e) (zah2 c ts d n) r
def cX (os:Orc)(c:Ch)(P:Prop)(k a:Int)(x:ByteArray)(r:List AV)(d:Int)(n:Nd):Prop :=
 rCh XB os c P (tokV k a x::r) d (encP n) nilE [] (encP n) nilE (cOut c [] d (encP n) nilE) (cOut c (tokV k a x::r) d (encP n) nilE)
def cXe (os:Orc)(k a:Int)(x:ByteArray)(r:List AV)(d:Int)(n:Nd):Prop:=cX os chE False k a x r d n
def cXt (os:Orc)(k a:Int)(x:ByteArray)(r:List AV)(d:Int)(n:Nd):Prop:=cX os chT False k a x r d n
def cE (os:Orc)(c:Ch)(ts:List AV)(d:Int)(n:Nd)(ek ea:Int):Prop:=rCh XB os c False ts d (encP n) (zaau ek ea) [] (encP n) nilE (cOut c [] d (encP n) nilE) (cOut c ts d (encP n) (zaau ek ea))
def cEe (os:Orc)(ts:List AV)(d:Int)(n:Nd)(ek ea:Int):Prop:=cE os chE ts d n ek ea
def cEt (os:Orc)(ts:List AV)(d:Int)(n:Nd)(ek ea:Int):Prop:=cE os chT ts d n ek ea
def cR (os:Orc)(c:Ch)(k kk a:Int)(x:ByteArray)(r:List AV)(d:Int)(n q:Nd)(e:AV)(us zs:List AV)(m:Nd)(ef:AV):Prop :=
 rCh (XC c r us d (encP q) e) os c True (tokV k a x::r) d (encP n) nilE us (zadZ kk a 0 E0 [encP n,encP q]) e (cOut c zs d (encP m) ef) (cOut c zs d (encP m) ef)
def cR7N (os:Orc)(a:Int)(x:ByteArray)(r:List AV)(d:Int)(n q:Nd)(us zs:List AV)(m:Nd):Prop:=cR os chE 7 2 a x r d n q nilE us zs m nilE
def cR7F (os:Orc)(a:Int)(x:ByteArray)(r:List AV)(d:Int)(n q:Nd)(us zs:List AV)(m:Nd)(fk fa:Int):Prop:=cR os chE 7 2 a x r d n q nilE us zs m (zaau fk fa)
def cR7E (os:Orc)(a:Int)(x:ByteArray)(r:List AV)(d:Int)(n q:Nd)(us zs:List AV)(m:Nd)(ek ea fk fa:Int):Prop:=cR os chE 7 2 a x r d n q (zaau ek ea) us zs m (zaau fk fa)
def cR8N (os:Orc)(a:Int)(x:ByteArray)(r:List AV)(d:Int)(n q:Nd)(us zs:List AV)(m:Nd):Prop:=cR os chE 8 3 a x r d n q nilE us zs m nilE
def cR8F (os:Orc)(a:Int)(x:ByteArray)(r:List AV)(d:Int)(n q:Nd)(us zs:List AV)(m:Nd)(fk fa:Int):Prop:=cR os chE 8 3 a x r d n q nilE us zs m (zaau fk fa)
def cR8E (os:Orc)(a:Int)(x:ByteArray)(r:List AV)(d:Int)(n q:Nd)(us zs:List AV)(m:Nd)(ek ea fk fa:Int):Prop:=cR os chE 8 3 a x r d n q (zaau ek ea) us zs m (zaau fk fa)
def cR9N (os:Orc)(a:Int)(x:ByteArray)(r:List AV)(d:Int)(n q:Nd)(us zs:List AV)(m:Nd):Prop:=cR os chT 9 4 a x r d n q nilE us zs m nilE
def cR9F (os:Orc)(a:Int)(x:ByteArray)(r:List AV)(d:Int)(n q:Nd)(us zs:List AV)(m:Nd)(fk fa:Int):Prop:=cR os chT 9 4 a x r d n q nilE us zs m (zaau fk fa)
def cR9E (os:Orc)(a:Int)(x:ByteArray)(r:List AV)(d:Int)(n q:Nd)(us zs:List AV)(m:Nd)(ek ea fk fa:Int):Prop:=cR os chT 9 4 a x r d n q (zaau ek ea) us zs m (zaau fk fa)
def gCh (os:Orc)(f:Nat)(c:Ch)(ts us:List AV)(d:Int)(q:Nd)(e:AV)(zs:List AV)(m:Nd)(ef:AV):Prop :=
 gP ((XC c ts us d (encP q) e).addLp fPChain 0 (lpCh c True us d (encP q) e (cOut c zs d (encP m) ef))) f os ts zs d (encP m) ef
def gExN (os:Orc)(ts us:List AV)(d:Int)(q:Nd)(zs:List AV)(m:Nd):Prop:=gCh os zacv chE ts us d q nilE zs m nilE
def gExF (os:Orc)(ts us:List AV)(d:Int)(q:Nd)(zs:List AV)(m:Nd)(fk fa:Int):Prop:=gCh os zacv chE ts us d q nilE zs m (zaau fk fa)
def gExE (os:Orc)(ts us:List AV)(d:Int)(q:Nd)(zs:List AV)(m:Nd)(ek ea fk fa:Int):Prop:=gCh os zacv chE ts us d q (zaau ek ea) zs m (zaau fk fa)
def gTeN (os:Orc)(ts us:List AV)(d:Int)(q:Nd)(zs:List AV)(m:Nd):Prop:=gCh os zafa chT ts us d q nilE zs m nilE
def gTeF (os:Orc)(ts us:List AV)(d:Int)(q:Nd)(zs:List AV)(m:Nd)(fk fa:Int):Prop:=gCh os zafa chT ts us d q nilE zs m (zaau fk fa)
def gTeE (os:Orc)(ts us:List AV)(d:Int)(q:Nd)(zs:List AV)(m:Nd)(ek ea fk fa:Int):Prop:=gCh os zafa chT ts us d q (zaau ek ea) zs m (zaau fk fa)
end
end Go.Proofs.YtpofhijgccocpaaGreatDoor
end
