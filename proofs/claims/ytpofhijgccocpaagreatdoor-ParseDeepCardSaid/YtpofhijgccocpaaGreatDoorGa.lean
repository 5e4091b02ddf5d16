/- Parts of the proof of ParseDeep. -/
import Derived.Test.YtpofhijgccocpaaGreatDoorAWh
import Derived.Test.YtpofhijgccocpaaGreatDoorChecked
import Derived.Test.YtpofhijgccocpaaGreatDoorAWm
import Derived.Test.YtpofhijgccocpaaGreatDoorASlaw
import Derived.Shelf.LaysM
import Derived.Shelf.Strconv.Itoa3
import Derived.Shelf.LaysC
import Derived.Shelf.Strconv.AtoiAll
import Derived.Test.YtpofhijgccocpaaGreatDoorProg
section
namespace Go.Proofs.YtpofhijgccocpaaGreatDoor
abbrev fText:Nat:=10
abbrev fMName:Nat:=79
abbrev fPick:Nat:=12
abbrev fParse:Nat:=20
abbrev fForm:Nat:=80
abbrev fIsPrefix:Nat:=81
abbrev fDigit:Nat:=109
abbrev fLex:Nat:=51
abbrev fOne:Nat:=86
abbrev fWord:Nat:=113
abbrev fWorded:Nat:=114
abbrev fSign:Nat:=115
abbrev fLetter:Nat:=130
abbrev fIndexB:Nat:=85
abbrev fIndexB3:Nat:=129
abbrev fHasP:Nat:=131
abbrev fHasP2:Nat:=141
abbrev fAt:Nat:=87
abbrev fWrong:Nat:=91
abbrev fPExpr:Nat:=52
abbrev fPTerm:Nat:=89
abbrev fPPart:Nat:=116
abbrev fPPart1:Nat:=134
abbrev fPRanged:Nat:=132
abbrev fPRanged1:Nat:=144
abbrev fPAtom:Nat:=143
abbrev fPChain:Nat:=88
abbrev fPExpect:Nat:=53
abbrev fPNext:Nat:=90
abbrev fPTake:Nat:=92
abbrev fPWithin:Nat:=133
abbrev fPUp:Nat:=142
abbrev fPUp1:Nat:=153
abbrev fPSecond:Nat:=145
abbrev fPBrack:Nat:=154
abbrev fPBrack1:Nat:=163
abbrev fPCall:Nat:=155
abbrev fPCall1:Nat:=164
abbrev fBegins:Nat:=156
abbrev fNumber:Nat:=165
abbrev fAtoi:Nat:=168
abbrev tErrno:Nat:=26
abbrev tPlaceP:Nat:=118
abbrev tErrStrP:Nat:=221
abbrev tNumErrP:Nat:=211
abbrev gSyntax:Nat:=5
abbrev gPow:Nat:=2
abbrev gRange:Nat:=6
end Go.Proofs.YtpofhijgccocpaaGreatDoor
end
section
namespace Go.TP
open Go.AS
structure Tk where
 kind:Int
 at_:Int
 text:ByteArray
inductive Nd where
 | mk (kind at_ n:Int)(text:ByteArray)(kids:List Nd)
namespace Nd
def kind:Nd→Int | mk k _ _ _ _=>k
def at_:Nd→Int | mk _ a _ _ _=>a
def num:Nd→Int | mk _ _ n _ _=>n
def text:Nd→ByteArray | mk _ _ _ t _=>t
def kids:Nd→List Nd | mk _ _ _ _ ks=>ks
end Nd
def Nd.zero:Nd := .mk 0 0 0 ByteArray.empty []
structure R where
 n:Nd
 e:Option (Int × Int)
 ts:List Tk
def headT:List Tk→Tk
 | []=>⟨11,0,ByteArray.empty⟩
 | t::_=>t
def takeT:List Tk→List Tk
 | []=>[]
 | t::r=>if t.kind=11 then t::r else r
def wrongT (ts:List Tk):Option (Int × Int):=some (15,(headT ts).at_)
def chainS (part:List Tk→R)(km:Int→Int):Nat→R→R
 | 0,r=>r
 | n+1,r=>if r.e=none∧km (headT r.ts).kind≠0 then
   let t:=headT r.ts
   let q:=part (takeT r.ts)
   chainS part km n ⟨.mk (km t.kind) t.at_ 0 ByteArray.empty [r.n,q.n],q.e,q.ts⟩
  else r
def kmE (k:Int):Int:=if k=7 then 2 else if k=8 then 3 else 0
def kmT (k:Int):Int:=if k=9 then 4 else 0
end Go.TP
namespace Go.TP
open Go.AS
def formS (s:ByteArray):Int :=
 if s=⟨#[97,108,108]⟩∨s=⟨#[110,111,110,101]⟩∨s=⟨#[109,97,115,116,101,114]⟩ then 1
 else if s=⟨#[112,97,114,101,110,116,115]⟩∨s=⟨#[99,104,105,108,100,114,101,110]⟩∨s=⟨#[97,110,99,101,115,116,111,114,115]⟩∨s=⟨#[100,101,115,99,101,110,100,97,110,116,115]⟩∨s=⟨#[104,101,97,100,115]⟩∨s=⟨#[114,111,111,116,115]⟩ then 2
 else if s=⟨#[102,105,114,115,116]⟩∨s=⟨#[108,97,115,116]⟩∨s=⟨#[108,105,109,105,116]⟩ then 3
 else 0
def isHexB (c:UInt8):Bool:=(48≤c&&c≤57)||(97≤c&&c≤102)
def isPrefixS (s:ByteArray):Bool:=s.data.toList.all isHexB&&decide (0<s.size)&&decide (s.size≤64)
def isDigB (c:UInt8):Bool:=48≤c&&c≤57
def numB (l:List UInt8):Int:=l.foldl (fun a c=>10*a+(c.toNat-48:Int)) 0
def numberS (t:Tk):Option Int:=if t.kind=1∧t.text.data.toList.all isDigB∧0<t.text.size∧t.text.size≤6 then some (numB t.text.data.toList) else none
def expectS (k:Int)(ts:List Tk):Option (Int × Int) × List Tk:=if (headT ts).kind=k then (none,takeT ts) else (wrongT ts,ts)
def withinS (d:Int)(t:Tk)(n0:Nd)(ts:List Tk)(f:Int→List Tk→R):R:=if d=24 then ⟨n0,some (16,t.at_),ts⟩ else f (d+1) ts
inductive Lv | expr | term | part | ranged | atom
def secondS (atom:List Tk→R)(k a:Int)(first:Nd)(must:Bool)(ts:List Tk):R :=
 if must=false∧(headT ts).kind≠2∧(headT ts).kind≠1 then ⟨.mk 7 a 0 ByteArray.empty [first],none,ts⟩
 else
  let q:=atom ts
  ⟨.mk k a 0 ByteArray.empty [first,q.n],q.e,q.ts⟩
def callS (expr:Int→List Tk→R)(d:Int)(w:Tk)(ts:List Tk):R :=
 let n (x:Int)(ks:List Nd):Nd := .mk 10 w.at_ x w.text ks
 if formS w.text=0 then ⟨.zero,some (15,w.at_),ts⟩
 else withinS d (headT ts) .zero (takeT ts) fun d ts =>
  let close (m:Nd)(ts:List Tk):R:=let x:=expectS 3 ts; ⟨m,x.1,x.2⟩
  if formS w.text=1 then close (n 0 []) ts
  else
   let q:=expr d ts
   if q.e≠none then ⟨n 0 [q.n],q.e,q.ts⟩
   else if formS w.text=2 then close (n 0 [q.n]) q.ts
   else
    let x:=expectS 4 q.ts
    if x.1≠none then ⟨n 0 [q.n],x.1,x.2⟩
    else match numberS (headT x.2) with
     | none=>⟨n 0 [q.n],wrongT x.2,x.2⟩
     | some k=>close (n k [q.n]) (takeT x.2)
def PF:Nat→Lv→Int→List Tk→R
 | 0,_,_,ts=>⟨.zero,none,ts⟩
 | f+1, .expr,d,ts=>chainS (PF f .term d) kmE f (PF f .term d ts)
 | f+1, .term,d,ts=>chainS (PF f .part d) kmT f (PF f .part d ts)
 | f+1, .part,d,ts =>
  let t:=headT ts
  if t.kind≠10 then PF f .ranged d ts
  else withinS d t (.mk 5 t.at_ 0 ByteArray.empty []) (takeT ts) fun d ts=>let q:=PF f .part d ts; ⟨.mk 5 t.at_ 0 ByteArray.empty [q.n],q.e,q.ts⟩
 | f+1, .ranged,d,ts =>
  let t:=headT ts
  if t.kind=5 then withinS d t (.mk 6 t.at_ 0 ByteArray.empty []) (takeT ts) fun d ts=>let q:=PF f .atom d ts; ⟨.mk 6 t.at_ 0 ByteArray.empty [q.n],q.e,q.ts⟩
  else
   let q:=PF f .atom d ts
   if q.e≠none then q
   else
    let u:=headT q.ts
    if u.kind=5 then withinS d u (.mk 8 u.at_ 0 ByteArray.empty [q.n]) (takeT q.ts) fun d ts=>secondS (PF f .atom d) 8 u.at_ q.n false ts
    else if u.kind=6 then secondS (PF f .atom d) 9 u.at_ q.n true (takeT q.ts)
    else ⟨q.n,none,q.ts⟩
 | f+1, .atom,d,ts =>
  let t:=headT ts
  if t.kind=2 then withinS d t .zero (takeT ts) fun d ts =>
   let q:=PF f .expr d ts
   if q.e≠none then q else let x:=expectS 3 q.ts; ⟨q.n,x.1,x.2⟩
  else if t.kind=1 then
   let ts:=takeT ts
   if (headT ts).kind=2 then callS (fun d ts=>PF f .expr d ts) d t ts
   else if isPrefixS t.text then ⟨.mk 1 t.at_ 0 t.text [],none,ts⟩
   else ⟨.zero,some (15,t.at_),ts⟩
  else ⟨.zero,wrongT ts,ts⟩
end Go.TP
end
section
namespace Go.TP
open Go.AS
def Nd.kid (n:Nd)(i:Nat):Nd:=n.kids.getD i .zero
def kidsN (k:Int)(t:ByteArray):Int :=
 if k=2∨k=3∨k=4∨k=8∨k=9 then 2
 else if k=5∨k=6∨k=7 then 1
 else if k=1 then 0
 else if k=10 then (if formS t-1<1 then formS t-1 else 1)
 else -1
def namedS (k n:Int)(t:ByteArray):Bool :=
 if k=1 then isPrefixS t&&decide (n=0)
 else if k=10 then decide (n=0)||(decide (formS t=3)&&(decide (0<n)&&decide (n≤999999)))
 else decide (t=ByteArray.empty)&&decide (n=0)
def shapeS (k n:Int)(t:ByteArray)(l:Nat):Bool:=decide (0≤kidsN k t)&&(decide (kidsN k t=l)&&namedS k n t)
mutual
def rightS:Nd→Bool
 | .mk k _ n t ks=>shapeS k n t ks.length&&rightL ks
def rightL:List Nd→Bool
 | []=>true
 | n::r=>rightS n&&rightL r
end
mutual
def sameS:Nd→Nd→Bool
 | .mk k _ n t ks,b=>decide (k=b.kind)&&(decide (n=b.num)&&(decide (t=b.text)&&(decide (ks.length=b.kids.length)&&sameL ks b.kids)))
def sameL:List Nd→List Nd→Bool
 | [],_=>true
 | _::_,[]=>true
 | a::r,b::s=>sameS a b&&sameL r s
end
mutual
def namesS:Nd→List Nd
 | .mk k a _ t ks=>if k=1 then [.mk 1 a 0 t []] else namesL ks
def namesL:List Nd→List Nd
 | []=>[]
 | n::r=>namesS n++namesL r
end
mutual
def sizeS:Nd→Int
 | .mk _ _ _ _ ks=>sizeL ks 1
def sizeL:List Nd→Int→Int
 | [],a=>a
 | n::r,a=>sizeL r (a+sizeS n)
end
def callIs (n:Nd)(s:ByteArray):Bool:=decide (n.kind=10)&&decide (n.text=s)
def wNone:ByteArray:=⟨#[110,111,110,101]⟩
def innerS (n:Nd)(k:Int):Nd:=if n.kind=k then n.kid 0 else n
def asS (k:Int)(n:Nd):Nd := .mk k n.at_ 0 ByteArray.empty [innerS (n.kid 0) k]
def hasNames (n:Nd):Bool:=decide (0<(namesS n).length)
def sidedS (n:Nd):Nd :=
 let a:=n.kid 0
 let b:=n.kid 1
 if n.kind≠2∧callIs a wNone=true∧hasNames b=false then a
 else if n.kind=4∧callIs b wNone=true∧hasNames a=false then b
 else if n.kind=2∧callIs a wNone=true then b
 else if n.kind≠4∧callIs b wNone=true then a
 else n
def wAnc:ByteArray:=⟨#[97,110,99,101,115,116,111,114,115]⟩
def wDesc:ByteArray:=⟨#[100,101,115,99,101,110,100,97,110,116,115]⟩
def wHeads:ByteArray:=⟨#[104,101,97,100,115]⟩
def wRoots:ByteArray:=⟨#[114,111,111,116,115]⟩
def wFirst:ByteArray:=⟨#[102,105,114,115,116]⟩
def wLast:ByteArray:=⟨#[108,97,115,116]⟩
def wLimit:ByteArray:=⟨#[108,105,109,105,116]⟩
def calledT (t:ByteArray)(n:Nd):Nd :=
 if t=wAnc then asS 6 n
 else if t=wDesc then asS 7 n
 else if t=wHeads∨t=wRoots then (if callIs (n.kid 0) t then n.kid 0 else n)
 else if t=wFirst∨t=wLast∨t=wLimit then (if callIs (n.kid 0) wNone then n.kid 0 else n)
 else n
def calledS (n:Nd):Nd:=calledT n.text n
def onceK (k:Int)(n:Nd):Nd :=
 if k=5 then (if (n.kid 0).kind=5 then (n.kid 0).kid 0 else n)
 else if k=6∨k=7 then asS k n
 else if k=10 then calledS n
 else if k=4∨k=2 then (if sameS (n.kid 0) (n.kid 1) then n.kid 0 else sidedS n)
 else if k=3 then sidedS n
 else n
def onceS (n:Nd):Nd:=onceK n.kind n
mutual
def rewS:Nd→Nd
 | .mk k a n t ks=>onceS (.mk k a n t (rewL ks))
def rewL:List Nd→List Nd
 | []=>[]
 | n::r=>rewS n::rewL r
end
theorem rightL_all:∀ {l:List Nd},rightL l=true↔∀ x∈l,rightS x=true
 | []=>by simp [rightL]
 | n::r=>by simp [rightL,rightL_all (l:=r)]
structure Keeps (n m:Nd):Prop where
 right:rightS m=true
 sub:∀ y∈namesS m,∃ x∈namesS n,x.text=y.text∧x.at_=y.at_
 sup:∀ x∈namesS n,∃ y∈namesS m,x.text=y.text
 len:(namesS m).length≤(namesS n).length
theorem Keeps.refl {n:Nd}(h:rightS n=true):Keeps n n:=⟨h,fun y hy=>⟨y,hy,rfl,rfl⟩,fun x hx=>⟨x,hx,rfl⟩,Nat.le_refl _⟩
theorem Keeps.trans {a b c:Nd}(h:Keeps a b)(k:Keeps b c):Keeps a c:=⟨k.right,fun y hy=>by
 obtain ⟨x,hx,e1,e2⟩:=k.sub y hy
 obtain ⟨z,hz,e3,e4⟩:=h.sub x hx
 exact ⟨z,hz,e3.trans e1,e4.trans e2⟩,fun x hx=>by
 obtain ⟨y,hy,e1⟩:=h.sup x hx
 obtain ⟨z,hz,e2⟩:=k.sup y hy
 exact ⟨z,hz,e1.trans e2⟩,Nat.le_trans k.len h.len⟩
theorem right_inv {k a n:Int}{t:ByteArray}{ks:List Nd}:rightS (.mk k a n t ks)=true↔shapeS k n t ks.length=true∧∀ x∈ks,rightS x=true:=by
 rw [rightS,Bool.and_eq_true,rightL_all]
theorem shape_kids {k n:Int}{t:ByteArray}{l:Nat}(h:shapeS k n t l=true):kidsN k t=l:=by
 simp only [shapeS,Bool.and_eq_true,decide_eq_true_eq] at h; exact h.2.1
theorem Keeps.mk' {n m:Nd}(h:rightS m=true)(k:(∀ y∈namesS m,∃ x∈namesS n,x.text=y.text∧x.at_=y.at_)∧(∀ x∈namesS n,∃ y∈namesS m,x.text=y.text)∧(namesS m).length≤(namesS n).length):Keeps n m :=
 ⟨h,k.1,k.2.1,k.2.2⟩
theorem Keeps.kids {k a n:Int}{t:ByteArray}{ks ms:List Nd}(h:rightS (.mk k a n t ks)=true)(hl:ms.length=ks.length)(hk:∀ i (h1:i<ks.length)(h2:i<ms.length),Keeps ks[i] ms[i]):Keeps (.mk k a n t ks) (.mk k a n t ms):=by
 have hr:=right_inv.1 h
 refine Keeps.mk' (right_inv.2 ⟨by rw [hl]; exact hr.1,fun x hx => ?_⟩) ?_
 · obtain ⟨i,hi,rfl⟩:=List.mem_iff_getElem.1 hx
   exact (hk i (by omega) hi).right
 have gen:∀ (ks ms:List Nd),ms.length=ks.length→(∀ i (h1:i<ks.length)(h2:i<ms.length),Keeps ks[i] ms[i]) →
   (∀ y∈namesL ms,∃ x∈namesL ks,x.text=y.text∧x.at_=y.at_)∧(∀ x∈namesL ks,∃ y∈namesL ms,x.text=y.text)∧(namesL ms).length≤(namesL ks).length:=by
  intro ks
  induction ks with
  | nil=>intro ms h _; obtain rfl:=List.eq_nil_of_length_eq_zero h; exact ⟨fun y hy=>(by cases hy),fun y hy=>(by cases hy),Nat.le_refl _⟩
  | cons x ks ih =>
   intro ms h hk
   cases ms with
   | nil=>cases h
   | cons y ms =>
    obtain ⟨i1,i2,i3⟩:=ih ms (by simpa using h) fun i h1 h2=>hk (i+1) (by simpa using h1) (by simpa using h2)
    have h0:=hk 0 (by simp) (by simp)
    simp only [List.getElem_cons_zero] at h0
    simp only [namesL,List.mem_append,List.length_append]
    refine ⟨fun z hz => ?_,fun z hz => ?_,?_⟩
    · rcases hz with hz | hz
      · obtain ⟨w,hw,e⟩:=h0.sub z hz; exact ⟨w, .inl hw,e⟩
      · obtain ⟨w,hw,e⟩:=i1 z hz; exact ⟨w, .inr hw,e⟩
    · rcases hz with hz | hz
      · obtain ⟨w,hw,e⟩:=h0.sup z hz; exact ⟨w, .inl hw,e⟩
      · obtain ⟨w,hw,e⟩:=i2 z hz; exact ⟨w, .inr hw,e⟩
    · have:=h0.len; omega
 obtain ⟨g1,g2,g3⟩:=gen ks ms hl hk
 by_cases h1:k=1
 · have e:∀ ks,namesS (.mk k a n t ks)=[.mk 1 a 0 t []]:=fun ks=>by rw [namesS,if_pos h1]
   rw [e,e]
   exact ⟨fun y hy=>⟨y,hy,rfl,rfl⟩,fun x hx=>⟨x,hx,rfl⟩,Nat.le_refl _⟩
 · have e:∀ ks,namesS (.mk k a n t ks)=namesL ks:=fun ks=>by rw [namesS,if_neg h1]
   rw [e,e]; exact ⟨g1,g2,g3⟩
theorem right_one {k:Int}(hk:k=5∨k=6∨k=7){a:Int}{x:Nd}(hx:rightS x=true):rightS (.mk k a 0 ByteArray.empty [x])=true:=by
 refine right_inv.2 ⟨?_,fun y hy=>by rw [List.mem_singleton.1 hy]; exact hx⟩
 rcases hk with rfl | rfl | rfl <;> rfl
theorem Keeps.of_eq {n m:Nd}(hr:rightS m=true)(h:namesS m=namesS n):Keeps n m :=
 ⟨hr,fun y hy=>⟨y,h ▸ hy,rfl,rfl⟩,fun x hx=>⟨x,h ▸ hx,rfl⟩,by rw [h]; exact Nat.le_refl _⟩
theorem form_kids {t:ByteArray}(h:formS t=2∨formS t=3):kidsN 10 t=1:=by
 unfold kidsN
 rcases h with h | h <;> simp [h]
end Go.TP
end
section
namespace Go.TP
open Go.AS
def letterN (c:Nat):Bool:=(decide (48≤c)&&decide (c≤57))||((decide (97≤c)&&decide (c≤122))||((decide (65≤c)&&decide (c≤90))||decide (c=95)))
def blankN (c:Nat):Bool:=decide (c=32)||(decide (c=9)||decide (c=10))
def wordG (s:ByteArray):Nat→Int→Int
 | 0,n=>n
 | f+1,n=>if n<s.size∧letterN (byteAt s n.toNat)=true then wordG s f (n+1) else n
def wordS (s:ByteArray):Int:=wordG s s.size 0
def wAll:ByteArray:=⟨#[97,108,108]⟩
def wMaster:ByteArray:=⟨#[109,97,115,116,101,114]⟩
def wParents:ByteArray:=⟨#[112,97,114,101,110,116,115]⟩
def wChildren:ByteArray:=⟨#[99,104,105,108,100,114,101,110]⟩
def bOr:ByteArray:=⟨#[111,114]⟩
def bAnd:ByteArray:=⟨#[97,110,100]⟩
def bNot:ByteArray:=⟨#[110,111,116]⟩
def bMinus:ByteArray:=⟨#[109,105,110,117,115]⟩
def wordedS (s:ByteArray):Int:=if s=bOr then 7 else if s=bAnd then 9 else if s=bNot then 10 else if s=bMinus then 8 else 1
def bCC:ByteArray:=⟨#[58,58]⟩
def bDD:ByteArray:=⟨#[46,46]⟩
def hasP (s p:ByteArray):Bool:=decide (p.size≤s.size)&&decide (s.extract 0 p.size=p)
def signC (c:Nat)(s:ByteArray):Int × Int :=
 if c=58 then (if hasP s bCC=true then (5,2) else if hasP s bDD=true then (6,2) else (0,0))
 else if c=46 then (if hasP s bDD=true then (6,2) else (0,0))
 else if c=40 then (2,1)
 else if c=41 then (3,1)
 else if c=44 then (4,1)
 else if c=43∨c=124 then (7,1)
 else if c=45 then (8,1)
 else if c=38 then (9,1)
 else if c=33 then (10,1)
 else (0,0)
def signS (s:ByteArray):Int × Int:=signC (byteAt s 0) s
def oneS (s:ByteArray):Int × Int:=if 0<wordS s then (wordedS (s.extract 0 (wordS s).toNat),wordS s) else signS s
def lexG (s:ByteArray):Nat→Int→List Tk→Option Int × List Tk
 | 0,_,out=>(none,out)
 | f+1,i,out =>
  if i<s.size then
   if blankN (byteAt s i.toNat)=true then lexG s f (i+1) out
   else
    let o:=oneS (s.extract i.toNat s.size)
    if o.1=0 then (some i,[])
    else lexG s f (i+o.2) (out++[⟨o.1,i,s.extract i.toNat (i+o.2).toNat⟩])
  else (none,out)
inductive LexR where
 | long
 | bad (at_:Int)
 | ok (ts:List Tk)
def lexS (s:ByteArray):LexR :=
 if 600<s.size then .long
 else match lexG s s.size 0 [] with
  | (some i,_) => .bad i
  | (none,ts) => .ok (ts++[⟨11,s.size,ByteArray.empty⟩])
end Go.TP
end
section
namespace Go.Proofs.YtpofhijgccocpaaGreatDoor
open Go.AS Go.TP
noncomputable section
noncomputable def fn (f:Nat):Func:=(Tryz.prog.funcs[f]?).getD default
noncomputable def code (f:Nat):Code:=((Tryz.prog.funcs[f]?).bind (·.body)).getD .skip
theorem fnOk (f:Nat)(h:(Tryz.prog.funcs[f]?).isSome=true):Tryz.prog.funcs[f]?=some (fn f):=fn_some h
noncomputable def extF (f:FuncId):Option (Go.AS.Id→Nat→List AV→Hp→Option Res):=bsel (Nat.beq f fIndexB3) (some (pureX Tryz.prog Extern.BytealgIndexByte.indexByte)) none
abbrev eSyn:ByteArray:=⟨#[105,110,118,97,108,105,100,32,115,121,110,116,97,120]⟩
abbrev eRan:ByteArray:=⟨#[118,97,108,117,101,32,111,117,116,32,111,102,32,114,97,110,103,101]⟩
noncomputable def errStr (s:ByteArray):AV := .iface tErrStrP (.ref (.agg [.lit (.string s)]))
def powL:List Int:=[1,10,100,1000,10000,100000,1000000,10000000,100000000,1000000000,10000000000,100000000000,1000000000000,10000000000000,100000000000000,1000000000000000,10000000000000000,100000000000000000,1000000000000000000,10000000000000000000]
noncomputable def powA:AV := .ref (.agg (powL.map fun z => .lit (.int .u64 z)))
noncomputable def gl0 (g:Nat):Option AV:=bsel (Nat.beq g gSyntax) (some (.ref (errStr eSyn))) (bsel (Nat.beq g gRange) (some (.ref (errStr eRan))) (bsel (Nat.beq g gPow) (some powA) none))
noncomputable def X0:PX:={ P:=Tryz.prog,gl:=gl0,ext:=extF,own:=fun f d=>Nat.beq f fPSecond&&Nat.beq d 4,m:=100000 }
theorem isExtB:IsExt Tryz.prog fIndexB3 (fn fIndexB3) Extern.BytealgIndexByte.indexByte:=⟨fnOk _ (by kernel_rfl),by kernel_rfl,by kernel_rfl,by kernel_rfl,by kernel_rfl⟩
theorem sound0:X0.Sound:=by
 refine ⟨by kernel_rfl,fun g x h => ?_,fun f g h => ?_⟩
 · have h:bsel (Nat.beq g gSyntax) (some (.ref (errStr eSyn))) (bsel (Nat.beq g gRange) (some (.ref (errStr eRan))) (bsel (Nat.beq g gPow) (some powA) none))=some x:=h
   cases hb:Nat.beq g gSyntax
   · rw [hb,bsel_false] at h
     cases hb2:Nat.beq g gRange
     · rw [hb2,bsel_false] at h
       cases hb3:Nat.beq g gPow
       · rw [hb3,bsel_false] at h; cases h
       · rw [hb3,bsel_true] at h; cases h; intro M; rfl
     · rw [hb2,bsel_true] at h; cases h; intro M; rfl
   · rw [hb,bsel_true] at h; cases h; intro M; rfl
 · have h:bsel (Nat.beq f fIndexB3) (some (pureX Tryz.prog Extern.BytealgIndexByte.indexByte)) none=some g:=h
   cases hb:Nat.beq f fIndexB3
   · rw [hb,bsel_false] at h; cases h
   · rw [hb,bsel_true] at h; cases h
     obtain rfl:=Nat.eq_of_beq_eq_true hb
     exact pureX_ok (C:=cx X0 fIndexB3 fun _ _ _ _ _=>none) isExtB
noncomputable def XB:WX:=WX.base X0
theorem XB_ok:XB.Sound := .base sound0
noncomputable abbrev i0 (n:Int):AV := .lit (.int .i64 n)
noncomputable abbrev b0 (b:Bool):AV := .lit (.bool b)
noncomputable abbrev s0 (s:ByteArray):AV := .lit (.string s)
abbrev F (f:Nat)(xs:List AV)(r:AV):Prop:=FOk Tryz.prog gl0 f xs .nil ⟨r, .nil,[]⟩
def gF (X:WX)(fs:List Nat)(f:Nat)(os:Orc)(xs:List AV)(r:AV):Prop:=runF (X.ask fs) 12 f (fn f) (code f) os 0 [] xs .nil ⟨r, .nil,[]⟩
theorem F_ok {X:WX}(hX:X.Sound)(hp:X.px=X0){fs:List Nat}{f:Nat}(hs:(Tryz.prog.funcs[f]?).isSome=true)(hb:(fn f).body=some (code f))(hn:((fn f).name == "runtime.NumGoroutine")=false){os:Orc}{xs:List AV}{r:AV}(h:gF X fs f os xs r):F f xs r:=by
 have hP:X.px.P=Tryz.prog:=by rw [hp]; rfl
 have hg:X.px.gl=gl0:=by rw [hp]; rfl
 have:=fn_ok (X:=X.ask fs) (d:=12) (hX.ask fs) (f:=f) (fn:=fn f) (code:=code f) (by show X.px.P.funcs[f]?=_; rw [hP]; exact fnOk f hs) hb hn h
 show FOk Tryz.prog gl0 f xs .nil ⟨r, .nil,[]⟩
 rw [←hg,←hP]; exact this
abbrev HT (o:Orc):Orc := .t (.t (.t (.t o)))
abbrev HF (o:Orc):Orc := .f (.f (.f (.f o)))
abbrev eR (l:Nat)(i:Go.AS.Id)(n:Nat)(xs:List AV):Nat × Ent:=(l,⟨i, .row true n xs⟩)
abbrev Yt (p:Prop):Prop:=true=true∧p
abbrev Yt4 (p:Prop):Prop:=true=true∧true=true∧true=true∧true=true∧p
abbrev Nf (p:Prop):Prop:=false=false∧p
abbrev Nf4 (p:Prop):Prop:=false=false∧false=false∧false=false∧false=false∧p
abbrev U1 (x:List AV)(y:List (Nat × Ent))(p:Prop):Prop:=∃ (_:Unit),(True∧Wks x x∧hpL y=hpL y)∧p
abbrev hR (h:Nat→Int):List AV:=[.lit (.int .u8 (h 0)), .lit (.int .u8 (h 1)), .lit (.int .u8 (h 2)), .lit (.int .u8 (h 3)), .lit (.int .u8 (h 4)), .lit (.int .u8 (h 5)), .lit (.int .u8 (h 6)), .lit (.int .u8 (h 7)), .lit (.int .u8 (h 8)), .lit (.int .u8 (h 9)), .lit (.int .u8 (h 10)), .lit (.int .u8 (h 11)), .lit (.int .u8 (h 12)), .lit (.int .u8 (h 13)), .lit (.int .u8 (h 14)), .lit (.int .u8 (h 15)), .lit (.int .u8 (h 16)), .lit (.int .u8 (h 17)), .lit (.int .u8 (h 18)), .lit (.int .u8 (h 19)), .lit (.int .u8 (h 20)), .lit (.int .u8 (h 21)), .lit (.int .u8 (h 22)), .lit (.int .u8 (h 23)), .lit (.int .u8 (h 24)), .lit (.int .u8 (h 25)), .lit (.int .u8 (h 26)), .lit (.int .u8 (h 27)), .lit (.int .u8 (h 28)), .lit (.int .u8 (h 29)), .lit (.int .u8 (h 30)), .lit (.int .u8 (h 31))]
end
end Go.Proofs.YtpofhijgccocpaaGreatDoor
end
section
namespace Go.Proofs.YtpofhijgccocpaaGreatDoor
open Go.AS Go.TP
noncomputable section
theorem F_of {f n:Nat}{xs:List AV}{x:AV}{c':Nat}{ws':List Nat}(h:S X0 n f xs 1 .nil []=some (x,c', .nil,ws')):F f xs x:=by
 intro E w vals hg hh hf _ hv
 obtain ⟨_,h2⟩:=S_ok sound0 n f xs 1 .nil [] x c' .nil ws' h
 refine (h2 E w vals hg hh hf hv).imp ?_
 rintro v w' ⟨E',k1,k2,k3,_⟩
 exact ⟨.z,_,E',rfl,⟨fun l _=>rfl,fun l e he=>⟨e,he⟩⟩,k1,k2,k3⟩
abbrev c0 (c:Nat):AV := .lit (.int .u8 c)
def isB (r:CallR)(b:Bool):Bool:=match r with
 | some (.lit (.bool a),_, .nil,_)=>a==b
 | _=>false
def isI (r:CallR)(n:Int):Bool:=match r with
 | some (.lit (.int .i64 a),_, .nil,_)=>decide (a=n)
 | _=>false
theorem isB_F {f n:Nat}{xs:List AV}{b:Bool}(h:isB (S X0 n f xs 1 .nil []) b=true):F f xs (b0 b):=by
 unfold isB at h
 split at h
 · rename_i hs; rw [beq_iff_eq] at h; subst h; exact F_of hs
 · cases h
theorem isI_F {f n:Nat}{xs:List AV}{a:Int}(h:isI (S X0 n f xs 1 .nil []) a=true):F f xs (i0 a):=by
 unfold isI at h
 split at h
 · rename_i hs; obtain rfl:=of_decide_eq_true h; exact F_of hs
 · cases h
theorem all256 {p:Nat→Bool}(h:(List.range 256).all p=true){c:Nat}(hc:c<256):p c=true:=List.all_eq_true.1 h c (List.mem_range.2 hc)
def blanks:ByteArray:=⟨#[32,9,10]⟩
def blankI (c:Nat):Int:=if c=32 then 0 else if c=9 then 1 else if c=10 then 2 else -1
def digitI (c:Nat):Int:=if 48≤c∧c≤57 then c-48 else if 97≤c∧c≤102 then c-87 else -1
theorem letter_ok {c:Nat}(hc:c<256):F fLetter [c0 c] (b0 (letterN c)) :=
 isB_F (n:=100) (all256 (p:=fun c=>isB (S X0 100 fLetter [c0 c] 1 .nil []) (letterN c)) (by kernel_rfl) hc)
theorem digit_ok {c:Nat}(hc:c<256):F fDigit [c0 c] (i0 (digitI c)) :=
 isI_F (n:=100) (all256 (p:=fun c=>isI (S X0 100 fDigit [c0 c] 1 .nil []) (digitI c)) (by kernel_rfl) hc)
theorem blank_ok {c:Nat}(hc:c<256):F fIndexB [s0 blanks,c0 c] (i0 (blankI c)) :=
 isI_F (n:=100) (all256 (p:=fun c=>isI (S X0 100 fIndexB [s0 blanks,c0 c] 1 .nil []) (blankI c)) (by kernel_rfl) hc)
def spLetter:Sp := .pure Nat (fun c=>c<256) (fun c=>[c0 c]) (fun c=>b0 (letterN c))
def spDigit:Sp := .pure Nat (fun c=>c<256) (fun c=>[c0 c]) (fun c=>i0 (digitI c))
def spBlank:Sp := .pure Nat (fun c=>c<256) (fun c=>[s0 blanks,c0 c]) (fun c=>i0 (blankI c))
end
end Go.Proofs.YtpofhijgccocpaaGreatDoor
end
section
namespace Go.Proofs.YtpofhijgccocpaaGreatDoor
open Go.AS Go.TP
noncomputable section
noncomputable def X1:WX:=((XB.add fLetter (Sp.con [spLetter])).add fDigit (Sp.con [spDigit])).add fIndexB (Sp.con [spBlank])
abbrev wordOut (n:Int):Ex × Back:=(.exit 0,⟨.tup [i0 n], .nil,[]⟩)
abbrev lpWord (P:Prop)(s:ByteArray)(n r:Int):Lp:=Lp1 [0,3] [] (fun _=>[3]) P [s0 s,i0 n] .nil (wordOut r)
def gWordL (os:Orc)(P:Prop)(s:ByteArray)(n r:Int):Prop:=runL (X1.ask [fWord]) 6 fWord (fn fWord).ntmps (loopAt (code fWord) 0) (lpWord P s (n+1) r) (lpWord P s (n+1) r) os 0 [] [s0 s,i0 n] .nil (wordOut r)
def gWord (os:Orc)(s:ByteArray)(r:Int):Prop:=gF (X1.addLp fWord 0 (lpWord True s 0 r)) [fWord] fWord os [s0 s] (i0 r)
def gWorded (os:Orc)(s:ByteArray)(r:Int):Prop:=gF X1 [fWorded] fWorded os [s0 s] (i0 r)
def gHasP (os:Orc)(s p:ByteArray)(r:Bool):Prop:=gF X1 [fHasP2] fHasP os [s0 s,s0 p] (b0 r)
def spHasP:Sp := .pure (ByteArray × ByteArray) (fun i=>i.2.size<1000000) (fun i=>[s0 i.1,s0 i.2]) (fun i=>b0 (hasP i.1 i.2))
noncomputable def X1s:WX:=X1.add fHasP (Sp.con [spHasP])
def gSign (os:Orc)(s:ByteArray)(k n:Int):Prop:=gF X1s [fSign] fSign os [s0 s] (.tup [i0 k,i0 n])
def spWord:Sp := .pure ByteArray (fun s=>s.size≤600) (fun s=>[s0 s]) (fun s=>i0 (wordS s))
def spWorded:Sp := .pure ByteArray (fun _=>True) (fun s=>[s0 s]) (fun s=>i0 (wordedS s))
def spSign:Sp := .pure ByteArray (fun s=>0<s.size) (fun s=>[s0 s]) (fun s => .tup [i0 (signS s).1,i0 (signS s).2])
noncomputable def X2:WX:=((X1.add fWord (Sp.con [spWord])).add fWorded (Sp.con [spWorded])).add fSign (Sp.con [spSign])
def gOne (os:Orc)(s:ByteArray)(k n:Int):Prop:=gF X2 [fOne] fOne os [s0 s] (.tup [i0 k,i0 n])
def spOne:Sp := .pure ByteArray (fun s=>0<s.size∧s.size≤600) (fun s=>[s0 s]) (fun s => .tup [i0 (oneS s).1,i0 (oneS s).2])
noncomputable def X3:WX:=X2.add fOne (Sp.con [spOne])
end
end Go.Proofs.YtpofhijgccocpaaGreatDoor
end
section
namespace Go.Proofs.YtpofhijgccocpaaGreatDoor
open Go Go.AS Go.TP
def ogWordL:Orc:=Orc.s (Orc.t (Orc.t (Orc.t (Orc.s Orc.z Orc.z)))) (Orc.f (Orc.f (Orc.f (Orc.f Orc.z))))
theorem gWordL_vc (P:Prop)(s:ByteArray)(n r:Int):gWordL ogWordL P s n r=(let z1:=(↑(ByteArray.size s):Int); let z2:=(AV.tup [i0 r]); (decide (n<z1)=true→Yt (Yt (decide ((0:Int)≤n∧n<z1)=true∧Yt (∃ (i1:Nat),(i1<256∧Wks [AV.lit (Value.int IntKind.u8 (↑(byteAt s (Int.toNat n)):Int))] [AV.lit (Value.int IntKind.u8 (↑i1:Int))]∧hpL []=hpL [])∧(letterN i1=true→inR IntKind.i64 (n+(1:Int))=true∧∃ (_:Unit),(P∧Wks [s0 s,i0 (n+(1:Int))] [s0 s,i0 (n+(1:Int))]∧hpL []=hpL [])∧Ex.exit 0=Ex.exit 0∧Wk z2 z2∧SameH (hpL []) (hpL []))∧(letterN i1=false→Ex.exit 0=Ex.exit 0∧Wk (AV.tup [i0 n]) z2∧SameH (hpL []) (hpL []))))))∧(decide (n<z1)=false→Nf4 (Ex.exit 0=Ex.exit 0∧Wk (AV.tup [i0 n]) z2∧SameH (hpL []) (hpL [])))):=by kernel_rfl
theorem gWord_vc (s:ByteArray)(r:Int):gWord (Orc.z) s r=(U1 [s0 s,i0 (0:Int)] [] (Wk (i0 r) (i0 r)∧SameH (hpL []) (hpL []))):=by kernel_rfl
def ogWorded:Orc:=Orc.s Orc.z (Orc.s Orc.z (Orc.s Orc.z (Orc.s Orc.z Orc.z)))
theorem gWorded_vc (s:ByteArray)(r:Int):gWorded ogWorded s r=(let z1:=(ByteArray.toList s==ByteArray.toList bMinus); let z2:=(ByteArray.toList s==ByteArray.toList bAnd); let z3:=(ByteArray.toList s==ByteArray.toList bNot); let z4:=(ByteArray.toList s==ByteArray.toList bOr); (z4=true→Wk (i0 (7:Int)) (i0 r)∧SameH (hpL []) (hpL []))∧(z4=false→(z2=true→Wk (i0 (9:Int)) (i0 r)∧SameH (hpL []) (hpL []))∧(z2=false→(z3=true→Wk (i0 (10:Int)) (i0 r)∧SameH (hpL []) (hpL []))∧(z3=false→(z1=true→Wk (i0 (8:Int)) (i0 r)∧SameH (hpL []) (hpL []))∧(z1=false→Wk (i0 (1:Int)) (i0 r)∧SameH (hpL []) (hpL [])))))):=by kernel_rfl
def ogHasP:Orc:=Orc.s (HT (Orc.t Orc.z)) (HF (Orc.f Orc.z))
theorem gHasP_vc (s p:ByteArray)(r:Bool):gHasP ogHasP s p r=(let z1:=(↑(ByteArray.size s):Int); let z2:=(↑(ByteArray.size p):Int); (decide (z1≥z2)=true→Yt (Yt (Yt (decide ((0:Int)≤(0:Int)∧(0:Int)≤Option.getD (some z2) z1∧Option.getD (some z2) z1≤z1∧false=false)=true∧Yt (Yt (Wk (b0 (ByteArray.toList (ByteArray.extract s 0 (Int.toNat (Option.getD (some z2) z1)))==ByteArray.toList p)) (b0 r)∧SameH (hpL []) (hpL [])))))))∧(decide (z1≥z2)=false→Nf4 (Nf (Wk (b0 false) (b0 r)∧SameH (hpL []) (hpL []))))):=by kernel_rfl
def ogSign:Orc:=Orc.s (Orc.s Orc.z (Orc.s Orc.z Orc.z)) (Orc.s (Orc.s Orc.z Orc.z) (Orc.s Orc.z (Orc.s Orc.z (Orc.s Orc.z (Orc.s (Orc.t Orc.z) (Orc.s Orc.z (Orc.s Orc.z (Orc.s Orc.z (Orc.s Orc.z Orc.z)))))))))
theorem gSign_vc (s:ByteArray)(k n:Int):gSign ogSign s k n=(decide ((0:Int)≤(0:Int)∧(0:Int)<(↑(ByteArray.size s):Int))=true∧(((↑(byteAt s 0):Int)==(58:Int))=true→∃ (i1:ByteArray × ByteArray),(ByteArray.size (Prod.snd i1)<1000000∧Wks [AV.lit (Value.string s),AV.lit (Value.string bCC)] [AV.lit (Value.string (Prod.fst i1)),AV.lit (Value.string (Prod.snd i1))]∧hpL []=hpL [])∧(hasP (Prod.fst i1) (Prod.snd i1)=true→Wk (AV.tup [AV.lit (Value.int IntKind.i64 (5:Int)),AV.lit (Value.int IntKind.i64 (2:Int))]) (AV.tup [AV.lit (Value.int IntKind.i64 k),AV.lit (Value.int IntKind.i64 n)])∧SameH (hpL []) (hpL []))∧(hasP (Prod.fst i1) (Prod.snd i1)=false→∃ (i2:ByteArray × ByteArray),(ByteArray.size (Prod.snd i2)<1000000∧Wks [AV.lit (Value.string s),AV.lit (Value.string bDD)] [AV.lit (Value.string (Prod.fst i2)),AV.lit (Value.string (Prod.snd i2))]∧hpL []=hpL [])∧(hasP (Prod.fst i2) (Prod.snd i2)=true→Wk (AV.tup [AV.lit (Value.int IntKind.i64 (6:Int)),AV.lit (Value.int IntKind.i64 (2:Int))]) (AV.tup [AV.lit (Value.int IntKind.i64 k),AV.lit (Value.int IntKind.i64 n)])∧SameH (hpL []) (hpL []))∧(hasP (Prod.fst i2) (Prod.snd i2)=false→Wk (AV.tup [AV.lit (Value.int IntKind.i64 (0:Int)),AV.lit (Value.int IntKind.i64 (0:Int))]) (AV.tup [AV.lit (Value.int IntKind.i64 k),AV.lit (Value.int IntKind.i64 n)])∧SameH (hpL []) (hpL []))))∧(((↑(byteAt s 0):Int)==(58:Int))=false→(((↑(byteAt s 0):Int)==(46:Int))=true→∃ (i3:ByteArray × ByteArray),(ByteArray.size (Prod.snd i3)<1000000∧Wks [AV.lit (Value.string s),AV.lit (Value.string bDD)] [AV.lit (Value.string (Prod.fst i3)),AV.lit (Value.string (Prod.snd i3))]∧hpL []=hpL [])∧(hasP (Prod.fst i3) (Prod.snd i3)=true→Wk (AV.tup [AV.lit (Value.int IntKind.i64 (6:Int)),AV.lit (Value.int IntKind.i64 (2:Int))]) (AV.tup [AV.lit (Value.int IntKind.i64 k),AV.lit (Value.int IntKind.i64 n)])∧SameH (hpL []) (hpL []))∧(hasP (Prod.fst i3) (Prod.snd i3)=false→Wk (AV.tup [AV.lit (Value.int IntKind.i64 (0:Int)),AV.lit (Value.int IntKind.i64 (0:Int))]) (AV.tup [AV.lit (Value.int IntKind.i64 k),AV.lit (Value.int IntKind.i64 n)])∧SameH (hpL []) (hpL [])))∧(((↑(byteAt s 0):Int)==(46:Int))=false→(((↑(byteAt s 0):Int)==(40:Int))=true→Wk (AV.tup [AV.lit (Value.int IntKind.i64 (2:Int)),AV.lit (Value.int IntKind.i64 (1:Int))]) (AV.tup [AV.lit (Value.int IntKind.i64 k),AV.lit (Value.int IntKind.i64 n)])∧SameH (hpL []) (hpL []))∧(((↑(byteAt s 0):Int)==(40:Int))=false→(((↑(byteAt s 0):Int)==(41:Int))=true→Wk (AV.tup [AV.lit (Value.int IntKind.i64 (3:Int)),AV.lit (Value.int IntKind.i64 (1:Int))]) (AV.tup [AV.lit (Value.int IntKind.i64 k),AV.lit (Value.int IntKind.i64 n)])∧SameH (hpL []) (hpL []))∧(((↑(byteAt s 0):Int)==(41:Int))=false→(((↑(byteAt s 0):Int)==(44:Int))=true→Wk (AV.tup [AV.lit (Value.int IntKind.i64 (4:Int)),AV.lit (Value.int IntKind.i64 (1:Int))]) (AV.tup [AV.lit (Value.int IntKind.i64 k),AV.lit (Value.int IntKind.i64 n)])∧SameH (hpL []) (hpL []))∧(((↑(byteAt s 0):Int)==(44:Int))=false→(((↑(byteAt s 0):Int)==(43:Int))=true→true=true∧Wk (AV.tup [AV.lit (Value.int IntKind.i64 (7:Int)),AV.lit (Value.int IntKind.i64 (1:Int))]) (AV.tup [AV.lit (Value.int IntKind.i64 k),AV.lit (Value.int IntKind.i64 n)])∧SameH (hpL []) (hpL []))∧(((↑(byteAt s 0):Int)==(43:Int))=false→(((↑(byteAt s 0):Int)==(124:Int))=true→Wk (AV.tup [AV.lit (Value.int IntKind.i64 (7:Int)),AV.lit (Value.int IntKind.i64 (1:Int))]) (AV.tup [AV.lit (Value.int IntKind.i64 k),AV.lit (Value.int IntKind.i64 n)])∧SameH (hpL []) (hpL []))∧(((↑(byteAt s 0):Int)==(124:Int))=false→(((↑(byteAt s 0):Int)==(45:Int))=true→Wk (AV.tup [AV.lit (Value.int IntKind.i64 (8:Int)),AV.lit (Value.int IntKind.i64 (1:Int))]) (AV.tup [AV.lit (Value.int IntKind.i64 k),AV.lit (Value.int IntKind.i64 n)])∧SameH (hpL []) (hpL []))∧(((↑(byteAt s 0):Int)==(45:Int))=false→(((↑(byteAt s 0):Int)==(38:Int))=true→Wk (AV.tup [AV.lit (Value.int IntKind.i64 (9:Int)),AV.lit (Value.int IntKind.i64 (1:Int))]) (AV.tup [AV.lit (Value.int IntKind.i64 k),AV.lit (Value.int IntKind.i64 n)])∧SameH (hpL []) (hpL []))∧(((↑(byteAt s 0):Int)==(38:Int))=false→(((↑(byteAt s 0):Int)==(33:Int))=true→Wk (AV.tup [AV.lit (Value.int IntKind.i64 (10:Int)),AV.lit (Value.int IntKind.i64 (1:Int))]) (AV.tup [AV.lit (Value.int IntKind.i64 k),AV.lit (Value.int IntKind.i64 n)])∧SameH (hpL []) (hpL []))∧(((↑(byteAt s 0):Int)==(33:Int))=false→Wk (AV.tup [AV.lit (Value.int IntKind.i64 (0:Int)),AV.lit (Value.int IntKind.i64 (0:Int))]) (AV.tup [AV.lit (Value.int IntKind.i64 k),AV.lit (Value.int IntKind.i64 n)])∧SameH (hpL []) (hpL [])))))))))))):=by kernel_rfl
theorem gOne_vc (s:ByteArray)(k n:Int):gOne (Orc.s Orc.z Orc.z) s k n=(let z1:=(↑(ByteArray.size s):Int); ∃ (i1:ByteArray),(ByteArray.size i1≤600∧Wks [s0 s] [s0 i1]∧hpL []=hpL [])∧(decide (wordS i1>(0:Int))=true→decide ((0:Int)≤(0:Int)∧(0:Int)≤Option.getD (some (wordS i1)) z1∧Option.getD (some (wordS i1)) z1≤z1∧false=false)=true∧∃ (i2:ByteArray),(True∧Wks [s0 (ByteArray.extract s 0 (Int.toNat (Option.getD (some (wordS i1)) z1)))] [s0 i2]∧hpL []=hpL [])∧Wk (AV.tup [i0 (wordedS i2),i0 (wordS i1)]) (AV.tup [i0 k,i0 n])∧SameH (hpL []) (hpL []))∧(decide (wordS i1>(0:Int))=false→∃ (i3:ByteArray),(0<ByteArray.size i3∧Wks [s0 s] [s0 i3]∧hpL []=hpL [])∧Wk (AV.tup [i0 (Prod.fst (signS i3)),i0 (Prod.snd (signS i3))]) (AV.tup [i0 k,i0 n])∧SameH (hpL []) (hpL []))):=by kernel_rfl
end Go.Proofs.YtpofhijgccocpaaGreatDoor
end
section
namespace Go.Proofs.YtpofhijgccocpaaGreatDoor
open Go.AS Go.TP
noncomputable section
theorem conOk {f:Nat}{s:Sp}(h:∀ i,s.pre i→FOk Tryz.prog gl0 f (s.args i) (s.heap i) (s.out i)):ConOk Tryz.prog gl0 f (Sp.con [s]):=Sp.one h
theorem X1_ok:X1.Sound:=((XB_ok.add (conOk (s:=spLetter) fun _ h=>letter_ok h)).add (conOk (s:=spDigit) fun _ h=>digit_ok h)).add (conOk (s:=spBlank) fun _ h=>blank_ok h)
theorem gWordL_ok {P:Prop}{s:ByteArray}{n r:Int}(h0:0≤n)(hs:s.size≤600)(h1:¬(n<s.size∧letterN (byteAt s n.toNat)=true)→r=n)(h2:n<s.size∧letterN (byteAt s n.toNat)=true→P) :
  gWordL ogWordL P s n r:=by
 rw [gWordL_vc]
 refine ⟨fun h => ?_,fun h => ?_⟩
 · have h:=of_decide_eq_true h
   refine ⟨rfl,rfl,decide_eq_true ⟨h0,h⟩,rfl,_,⟨byteAt_lt _ _, .refl _,rfl⟩,fun g => ?_,fun g => ?_⟩
   · exact ⟨inR_i64 (by omega) (by omega),(),⟨h2 ⟨h,g⟩, .refl _,rfl⟩,rfl, .refl _, .rfl⟩
   · rw [h1 fun q=>by rw [q.2] at g; cases g]; exact ⟨rfl, .refl _, .rfl⟩
 · have h:=of_decide_eq_false h
   rw [h1 fun q=>h q.1]; exact ⟨rfl,rfl,rfl,rfl,rfl, .refl _, .rfl⟩
abbrev BWord (xs:List AV)(r:Ex × Back):Prop:=BlkOk Tryz.prog gl0 (fn fWord).ntmps (loopAt (code fWord) 0) [0,3] (fun _=>[3]) xs .nil fun _ q=>q=r
set_option maxRecDepth 100000 in
theorem wordL (s:ByteArray)(hs:s.size≤600):∀ (f:Nat)(n:Int),0≤n→s.size-n≤f→BWord [s0 s,i0 n] (wordOut (wordG s f n)):=by
 intro f
 induction f with
 | zero =>
  intro n h0 hn
  exact lp_round1 (X:=X1.ask [fWord]) (X1_ok.ask _) (fnOk fWord (by kernel_rfl)) (show (fn fWord).body=some (code fWord) by kernel_rfl) (by decide) (P:=False) (fun h=>h.elim) (gWordL_ok h0 hs (fun _=>rfl) (fun q=>by omega))
 | succ f ih =>
  intro n h0 hn
  rw [wordG]
  by_cases h:n<s.size∧letterN (byteAt s n.toNat)=true
  · rw [if_pos h]
    exact lp_round1 (X:=X1.ask [fWord]) (X1_ok.ask _) (fnOk fWord (by kernel_rfl)) (show (fn fWord).body=some (code fWord) by kernel_rfl) (by decide) (P:=True) (fun _=>ih (n+1) (by omega) (by omega)) (gWordL_ok h0 hs (fun q=>absurd h q) (fun _=>trivial))
  · rw [if_neg h]
    exact lp_round1 (X:=X1.ask [fWord]) (X1_ok.ask _) (fnOk fWord (by kernel_rfl)) (show (fn fWord).body=some (code fWord) by kernel_rfl) (by decide) (P:=False) (fun h=>h.elim) (gWordL_ok h0 hs (fun _=>rfl) (fun q=>absurd q h))
theorem gWord_ok (s:ByteArray)(r:Int):gWord Orc.z s r:=by rw [gWord_vc]; exact ⟨(),⟨trivial, .refl _,rfl⟩, .refl _, .rfl⟩
set_option maxRecDepth 100000 in
theorem word_ok (s:ByteArray)(hs:s.size≤600):F fWord [s0 s] (i0 (wordS s)) :=
 F_ok (X:=X1.addLp fWord 0 (lpWord True s 0 (wordS s))) (X1_ok.addLp (fnOk fWord (by kernel_rfl)) (show (fn fWord).body=some (code fWord) by kernel_rfl) (by kernel_rfl)
  (Spl.ok rfl (show ([0,3]:List Nat).Nodup by decide) fun s' hs' i _=>by obtain rfl:=List.mem_singleton.1 hs'; exact wordL s hs s.size 0 (Int.le_refl _) (by omega)))
  rfl (by kernel_rfl) (by kernel_rfl) (by kernel_rfl) (gWord_ok s _)
theorem gWorded_ok (s:ByteArray):gWorded ogWorded s (wordedS s):=by
 rw [gWorded_vc]
 rw [strEq' s bOr,strEq' s bAnd,strEq' s bNot,strEq' s bMinus]
 unfold wordedS
 refine ⟨fun h => ?_,fun h=>⟨fun g => ?_,fun g=>⟨fun k => ?_,fun k=>⟨fun q => ?_,fun q => ?_⟩⟩⟩⟩
 · rw [if_pos (of_decide_eq_true h)]; exact ⟨.refl _, .rfl⟩
 all_goals rw [if_neg (of_decide_eq_false h)]
 · rw [if_pos (of_decide_eq_true g)]; exact ⟨.refl _, .rfl⟩
 all_goals rw [if_neg (of_decide_eq_false g)]
 · rw [if_pos (of_decide_eq_true k)]; exact ⟨.refl _, .rfl⟩
 all_goals rw [if_neg (of_decide_eq_false k)]
 · rw [if_pos (of_decide_eq_true q)]; exact ⟨.refl _, .rfl⟩
 · rw [if_neg (of_decide_eq_false q)]; exact ⟨.refl _, .rfl⟩
set_option maxRecDepth 100000 in
theorem worded_ok (s:ByteArray):F fWorded [s0 s] (i0 (wordedS s)):=F_ok X1_ok rfl (by kernel_rfl) (by kernel_rfl) (by kernel_rfl) (gWorded_ok s)
theorem gHasP_ok (s p:ByteArray):gHasP ogHasP s p (hasP s p):=by
 rw [gHasP_vc]
 unfold hasP
 refine ⟨fun h => ?_,fun h => ?_⟩
 · have h:=of_decide_eq_true h
   refine ⟨rfl,rfl,rfl,decide_eq_true ⟨Int.le_refl _,Int.natCast_nonneg _,h,rfl⟩,rfl,rfl, .of_eq ?_, .rfl⟩
   rw [strEq',decide_eq_true (show p.size≤s.size by omega)]; rfl
 · have h:=of_decide_eq_false h
   refine ⟨rfl,rfl,rfl,rfl,rfl, .of_eq ?_, .rfl⟩
   rw [decide_eq_false (show ¬p.size≤s.size by omega)]; rfl
set_option maxRecDepth 100000 in
theorem hasP_ok (s p:ByteArray):F fHasP [s0 s,s0 p] (b0 (hasP s p)):=F_ok X1_ok rfl (by kernel_rfl) (by kernel_rfl) (by kernel_rfl) (gHasP_ok s p)
theorem X1s_ok:X1s.Sound:=X1_ok.add (conOk (s:=spHasP) fun i _=>hasP_ok i.1 i.2)
theorem gSign_ok (s:ByteArray)(hs:0<s.size):gSign ogSign
  s (signS s).1 (signS s).2:=by
 rw [gSign_vc]
 unfold signS
 generalize byteAt s 0=c
 rw [intBeq (b:=58) (n:=58) rfl,intBeq (b:=46) (n:=46) rfl,intBeq (b:=40) (n:=40) rfl,intBeq (b:=41) (n:=41) rfl,intBeq (b:=44) (n:=44) rfl,intBeq (b:=43) (n:=43) rfl,intBeq (b:=124) (n:=124) rfl,intBeq (b:=45) (n:=45) rfl,intBeq (b:=38) (n:=38) rfl,intBeq (b:=33) (n:=33) rfl]
 unfold signC
 refine ⟨decide_eq_true ⟨Int.le_refl _,by omega⟩,fun h => ?_,fun h=>⟨fun h2 => ?_,fun h2=>⟨fun h3 => ?_,fun h3=>⟨fun h4 => ?_,fun h4=>⟨fun h5 => ?_,fun h5=>⟨fun h6 => ?_,fun h6=>⟨fun h7 => ?_,fun h7=>⟨fun h8 => ?_,fun h8=>⟨fun h9 => ?_,fun h9=>⟨fun h10 => ?_,fun h10 => ?_⟩⟩⟩⟩⟩⟩⟩⟩⟩⟩
 · rw [if_pos (of_decide_eq_true h)]
   refine ⟨(s,bCC),⟨(show (2:Nat)<1000000 by decide), .refl _,rfl⟩,fun g => ?_,fun g => ?_⟩
   · have g:hasP s bCC=true:=g
     rw [if_pos g]; exact ⟨.refl _, .rfl⟩
   · have g:hasP s bCC=false:=g
     rw [if_neg (by rw [g]; decide)]
     refine ⟨(s,bDD),⟨(show (2:Nat)<1000000 by decide), .refl _,rfl⟩,fun g => ?_,fun g => ?_⟩
     · have g:hasP s bDD=true:=g
       rw [if_pos g]; exact ⟨.refl _, .rfl⟩
     · have g:hasP s bDD=false:=g
       rw [if_neg (by rw [g]; decide)]; exact ⟨.refl _, .rfl⟩
 all_goals rw [if_neg (of_decide_eq_false h)]
 · rw [if_pos (of_decide_eq_true h2)]
   refine ⟨(s,bDD),⟨(show (2:Nat)<1000000 by decide), .refl _,rfl⟩,fun g => ?_,fun g => ?_⟩
   · have g:hasP s bDD=true:=g
     rw [if_pos g]; exact ⟨.refl _, .rfl⟩
   · have g:hasP s bDD=false:=g
     rw [if_neg (by rw [g]; decide)]; exact ⟨.refl _, .rfl⟩
 all_goals rw [if_neg (of_decide_eq_false h2)]
 · rw [if_pos (of_decide_eq_true h3)]; exact ⟨.refl _, .rfl⟩
 all_goals rw [if_neg (of_decide_eq_false h3)]
 · rw [if_pos (of_decide_eq_true h4)]; exact ⟨.refl _, .rfl⟩
 all_goals rw [if_neg (of_decide_eq_false h4)]
 · rw [if_pos (of_decide_eq_true h5)]; exact ⟨.refl _, .rfl⟩
 all_goals rw [if_neg (of_decide_eq_false h5)]
 · rw [if_pos (.inl (of_decide_eq_true h6))]; exact ⟨rfl, .refl _, .rfl⟩
 · rw [if_pos (.inr (of_decide_eq_true h7))]; exact ⟨.refl _, .rfl⟩
 all_goals rw [if_neg (fun q:c=43∨c=124=>q.elim (of_decide_eq_false h6) (of_decide_eq_false h7))]
 · rw [if_pos (of_decide_eq_true h8)]; exact ⟨.refl _, .rfl⟩
 all_goals rw [if_neg (of_decide_eq_false h8)]
 · rw [if_pos (of_decide_eq_true h9)]; exact ⟨.refl _, .rfl⟩
 all_goals rw [if_neg (of_decide_eq_false h9)]
 · rw [if_pos (of_decide_eq_true h10)]; exact ⟨.refl _, .rfl⟩
 · rw [if_neg (of_decide_eq_false h10)]; exact ⟨.refl _, .rfl⟩
set_option maxRecDepth 100000 in
theorem sign_ok (s:ByteArray)(hs:0<s.size):F fSign [s0 s] (.tup [i0 (signS s).1,i0 (signS s).2]):=F_ok X1s_ok rfl (by kernel_rfl) (by kernel_rfl) (by kernel_rfl) (gSign_ok s hs)
theorem X2_ok:X2.Sound:=((X1_ok.add (conOk (s:=spWord) fun s h=>word_ok s h)).add (conOk (s:=spWorded) fun s _=>worded_ok s)).add (conOk (s:=spSign) fun s h=>sign_ok s h)
theorem wordG_le (s:ByteArray):∀ (f:Nat)(n:Int),n≤s.size→n≤wordG s f n∧wordG s f n≤s.size:=by
 intro f
 induction f with
 | zero=>intro n h; exact ⟨Int.le_refl _,h⟩
 | succ f ih =>
  intro n h
  rw [wordG]
  split
  · rename_i h1; have:=ih (n+1) (by omega); omega
  · exact ⟨Int.le_refl _,h⟩
theorem wordS_le (s:ByteArray):0≤wordS s∧wordS s≤s.size:=wordG_le s s.size 0 (by omega)
theorem gOne_ok (s:ByteArray)(h0:0<s.size)(hs:s.size≤600):gOne (Orc.s Orc.z Orc.z) s (oneS s).1 (oneS s).2:=by
 rw [gOne_vc]
 have hw:=wordS_le s
 unfold oneS
 refine ⟨s,⟨hs, .refl _,rfl⟩,fun h => ?_,fun h => ?_⟩
 · have h:0<wordS s:=of_decide_eq_true h
   rw [if_pos h]
   exact ⟨decide_eq_true ⟨Int.le_refl _,hw.1,hw.2,rfl⟩,_,⟨trivial, .refl _,rfl⟩, .refl _, .rfl⟩
 · have h:¬0<wordS s:=of_decide_eq_false h
   rw [if_neg h]
   exact ⟨s,⟨h0, .refl _,rfl⟩, .refl _, .rfl⟩
set_option maxRecDepth 100000 in
theorem one_ok (s:ByteArray)(h0:0<s.size)(hs:s.size≤600):F fOne [s0 s] (.tup [i0 (oneS s).1,i0 (oneS s).2]):=F_ok X2_ok rfl (by kernel_rfl) (by kernel_rfl) (by kernel_rfl) (gOne_ok s h0 hs)
theorem X3_ok:X3.Sound:=X2_ok.add (conOk (s:=spOne) fun s h=>one_ok s h.1 h.2)
end
end Go.Proofs.YtpofhijgccocpaaGreatDoor
end
section
namespace Go.Proofs.YtpofhijgccocpaaGreatDoor
open Go.AS Go.TP
noncomputable section
def encT (t:Tk):AV := .agg [i0 t.kind,i0 t.at_,s0 t.text]
def encErr (k a:Int):AV := .iface tPlaceP (.ref (.agg [i0 a, .iface tErrno (i0 k)]))
def lexArgs (s:ByteArray)(ys:List AV)(i:Int):List AV:=[s0 s, .slc 1048577 [0,0] 0 ys.length,i0 i]
def lexHeap (ys:List AV):Hp:=hpL [(1048577,⟨[0,0], .row true 3 ys⟩)]
def lexOut (c:Nat)(s:ByteArray)(ys:List AV):Ex × Back:=(.exit 0,⟨.tup [s0 s, .slc 1048577 [0,c] 0 ys.length],hpL [(1048577,⟨[0,c], .row true 3 ys⟩)],[1048577]⟩)
def lexBad (c:Nat)(ys:List AV)(i:Int):Ex × Back:=(.ret,⟨.tup [.lit (.slice none 0 0),encErr 15 i],hpL [(1048577,⟨[0,c], .row true 3 ys⟩)],[1048577]⟩)
def lexOuts:Ex→List Nat
 | .ret=>[2,3]
 | _=>[0,4]
abbrev lpLex (Q:Int→List AV→Prop)(s:ByteArray)(r:Ex × Back):Lp:=⟨[0,4,5],[(4,3)],lexOuts,Spl.con [⟨Int × List AV,fun q=>Q q.1 q.2,fun q=>lexArgs s q.2 q.1,fun q=>lexHeap q.2,fun _=>r⟩]⟩
def rLex (os:Orc)(fc:List Nat)(Q:Int→List AV→Prop)(s:ByteArray)(ys:List AV)(i:Int)(r r':Ex × Back):Prop :=
 runL (X3.ask [fLex]) 8 fLex (fn fLex).ntmps (loopAt (code fLex) 0) (lpLex Q s r') (lpLex Q s r') os 0 fc (lexArgs s ys i) (lexHeap ys) r
def rLexE (os:Orc)(Q:Int→List AV→Prop)(s:ByteArray)(ys:List AV)(i:Int):Prop:=rLex os [] Q s ys i (lexOut 0 s ys) (lexOut 0 s ys)
def rLexX (os:Orc)(Q:Int→List AV→Prop)(s:ByteArray)(ys:List AV)(i:Int):Prop:=rLex os [] Q s ys i (lexBad 0 ys i) (lexOut 0 s ys)
def rLexA (os:Orc)(Q:Int→List AV→Prop)(s:ByteArray)(ys zs:List AV)(i:Int):Prop:=rLex os [1048577] Q s ys i (lexOut 1 s zs) (lexOut 0 s zs)
def rLexB (os:Orc)(Q:Int→List AV→Prop)(s:ByteArray)(ys zs:List AV)(i:Int):Prop:=rLex os [1048577] Q s ys i (lexOut 1 s zs) (lexOut 1 s zs)
def rLexC (os:Orc)(Q:Int→List AV→Prop)(s:ByteArray)(ys zs:List AV)(i j:Int):Prop:=rLex os [1048577] Q s ys i (lexBad 1 zs j) (lexBad 0 zs j)
def rLexD (os:Orc)(Q:Int→List AV→Prop)(s:ByteArray)(ys zs:List AV)(i j:Int):Prop:=rLex os [1048577] Q s ys i (lexBad 1 zs j) (lexBad 1 zs j)
def gLex (os:Orc)(s:ByteArray)(r:Ex × Back)(x:AV):Prop:=runF ((X3.addLp fLex 0 (lpLex (fun i ys=>i=0∧ys=[]) s r)).ask [fLex]) 10 fLex (fn fLex) (code fLex) os 1 [] [s0 s] .nil ⟨x, .nil,[]⟩
def gLexA (os:Orc)(s:ByteArray)(zs:List AV):Prop:=gLex os s (lexOut 0 s zs) (.tup [.lst false 3 (zs++[.agg [i0 11,i0 s.size,s0 ByteArray.empty]]), .lit .nilIface])
def gLexB (os:Orc)(s:ByteArray)(zs:List AV):Prop:=gLex os s (lexOut 1 s zs) (.tup [.lst false 3 (zs++[.agg [i0 11,i0 s.size,s0 ByteArray.empty]]), .lit .nilIface])
def gLexC (os:Orc)(s:ByteArray)(zs:List AV)(j:Int):Prop:=gLex os s (lexBad 0 zs j) (.tup [.lst false 3 [],encErr 15 j])
def gLexD (os:Orc)(s:ByteArray)(zs:List AV)(j:Int):Prop:=gLex os s (lexBad 1 zs j) (.tup [.lst false 3 [],encErr 15 j])
end
end Go.Proofs.YtpofhijgccocpaaGreatDoor
end
section
namespace Go.Proofs.YtpofhijgccocpaaGreatDoor
open Go Go.AS Go.TP
theorem rLexE_vc (Q:Int→List AV→Prop)(s:ByteArray)(ys:List AV)(i:Int):rLexE (Orc.f Orc.z) Q s ys i=(let z1:=(AV.tup [s0 s,AV.slc 1048577 [0,0] 0 (List.length ys)]); decide (i<(↑(ByteArray.size s):Int))=false∧Ex.exit 0=Ex.exit 0∧Wk z1 z1∧SameH (hpL [eR 1048577 [0,0] 3 ys]) (hpL [eR 1048577 [0,0] 3 ys])):=by kernel_rfl
theorem rLexX_vc (Q:Int→List AV→Prop)(s:ByteArray)(ys:List AV)(i:Int):rLexX (Orc.t (Orc.f (Orc.t Orc.z))) Q s ys i=(let z1:=(↑(ByteArray.size s):Int); let z2:=(AV.tup [AV.lit (Value.slice none 0 0),AV.iface 118 (AV.ref (AV.agg [i0 i,AV.iface 26 (i0 (15:Int))]))]); let z3:=[(32:UInt8),(9:UInt8),(10:UInt8)]; decide (i<z1)=true∧decide ((0:Int)≤i∧i<z1)=true∧∃ (i1:Nat),(i1<256∧Wks [s0 { data:={ toList:=z3 } },AV.lit (Value.int IntKind.u8 (↑(byteAt s (Int.toNat i)):Int))] [s0 { data:={ toList:=z3 } },AV.lit (Value.int IntKind.u8 (↑i1:Int))]∧hpL []=hpL [])∧decide (blankI i1≥(0:Int))=false∧decide ((0:Int)≤Option.getD (some i) (0:Int)∧Option.getD (some i) (0:Int)≤Option.getD none z1∧Option.getD none z1≤z1∧false=false)=true∧∃ (i2:ByteArray),((0<ByteArray.size i2∧ByteArray.size i2≤600)∧Wks [s0 (ByteArray.extract s (Int.toNat (Option.getD (some i) (0:Int))) (Int.toNat (Option.getD none z1)))] [s0 i2]∧hpL []=hpL [])∧(Prod.fst (oneS i2)==(0:Int))=true∧Ex.ret=Ex.ret∧Wk z2 z2∧SameH (hpL [eR 1048577 [0,0] 3 ys]) (hpL [eR 1048577 [0,0] 3 ys])):=by kernel_rfl
def orLexA:Orc:=Orc.t (Orc.s Orc.z (Orc.f Orc.z))
theorem rLexA_vc (Q:Int→List AV→Prop)(s:ByteArray)(ys zs:List AV)(i:Int):rLexA orLexA Q s ys zs i=(decide (i<(↑(ByteArray.size s):Int))=true∧decide ((0:Int)≤i∧i<(↑(ByteArray.size s):Int))=true∧∃ (i1:Nat),(i1<256∧Wks [AV.lit (Value.string ⟨⟨[(32:UInt8),(9:UInt8),(10:UInt8)]⟩⟩),AV.lit (Value.int IntKind.u8 (↑(byteAt s (Int.toNat i)):Int))] [AV.lit (Value.string ⟨⟨[(32:UInt8),(9:UInt8),(10:UInt8)]⟩⟩),AV.lit (Value.int IntKind.u8 (↑i1:Int))]∧hpL []=hpL [])∧(decide (blankI i1≥(0:Int))=true→inR IntKind.i64 (i+(1:Int))=true∧∃ (i2:Int × List AV),(Q (Prod.fst i2) (Prod.snd i2)∧Wks [AV.lit (Value.string s),AV.slc 1048577 [0,0] 0 (List.length ys),AV.lit (Value.int IntKind.i64 (i+(1:Int)))] [AV.lit (Value.string s),AV.slc 1048577 [0,0] 0 (List.length (Prod.snd i2)),AV.lit (Value.int IntKind.i64 (Prod.fst i2))]∧hpL [(1048577,{ id:=[0,0],obj:=AObj.row true 3 ys })]=hpL [(1048577,{ id:=[0,0],obj:=AObj.row true 3 (Prod.snd i2) })])∧Ex.exit 0=Ex.exit 0∧Wk (AV.tup [AV.lit (Value.string s),AV.slc 1048577 [0,1] 0 (List.length zs)]) (AV.tup [AV.lit (Value.string s),AV.slc 1048577 [0,1] 0 (List.length zs)])∧SameH (hpL [(1048577,{ id:=[0,1],obj:=AObj.row true 3 zs })]) (hpL [(1048577,{ id:=[0,1],obj:=AObj.row true 3 zs })]))∧(decide (blankI i1≥(0:Int))=false→decide ((0:Int)≤Option.getD (some i) (0:Int)∧Option.getD (some i) (0:Int)≤Option.getD none (↑(ByteArray.size s):Int)∧Option.getD none (↑(ByteArray.size s):Int)≤(↑(ByteArray.size s):Int)∧false=false)=true∧∃ (i3:ByteArray),((0<ByteArray.size i3∧ByteArray.size i3≤600)∧Wks [AV.lit (Value.string (ByteArray.extract s (Int.toNat (Option.getD (some i) (0:Int))) (Int.toNat (Option.getD none (↑(ByteArray.size s):Int)))))] [AV.lit (Value.string i3)]∧hpL []=hpL [])∧(Prod.fst (oneS i3)==(0:Int))=false∧inR IntKind.i64 (i+Prod.snd (oneS i3))=true∧decide ((0:Int)≤Option.getD (some i) (0:Int)∧Option.getD (some i) (0:Int)≤Option.getD (some (i+Prod.snd (oneS i3))) (↑(ByteArray.size s):Int)∧Option.getD (some (i+Prod.snd (oneS i3))) (↑(ByteArray.size s):Int)≤(↑(ByteArray.size s):Int)∧false=false)=true∧(true&&(true&&Nat.ble (0+List.length ys) (List.length ys))&&(true&&decide (List.length (List.take (List.length ys) (List.drop 0 ys)++[AV.agg [AV.lit (Value.int IntKind.i64 (Prod.fst (oneS i3))),AV.lit (Value.int IntKind.i64 i),AV.lit (Value.string (ByteArray.extract s (Int.toNat (Option.getD (some i) (0:Int))) (Int.toNat (Option.getD (some (i+Prod.snd (oneS i3))) (↑(ByteArray.size s):Int)))))]])*32≤140737488355328∧List.length (List.take (List.length ys) (List.drop 0 ys)++[AV.agg [AV.lit (Value.int IntKind.i64 (Prod.fst (oneS i3))),AV.lit (Value.int IntKind.i64 i),AV.lit (Value.string (ByteArray.extract s (Int.toNat (Option.getD (some i) (0:Int))) (Int.toNat (Option.getD (some (i+Prod.snd (oneS i3))) (↑(ByteArray.size s):Int)))))]])≤1152921504606846976)))=true∧inR IntKind.i64 (i+Prod.snd (oneS i3))=true∧∃ (i4:Int × List AV),(Q (Prod.fst i4) (Prod.snd i4)∧Wks [AV.lit (Value.string s),AV.slc 1048577 [0,0] 0 (List.length (List.take (List.length ys) (List.drop 0 ys)++[AV.agg [AV.lit (Value.int IntKind.i64 (Prod.fst (oneS i3))),AV.lit (Value.int IntKind.i64 i),AV.lit (Value.string (ByteArray.extract s (Int.toNat (Option.getD (some i) (0:Int))) (Int.toNat (Option.getD (some (i+Prod.snd (oneS i3))) (↑(ByteArray.size s):Int)))))]])),AV.lit (Value.int IntKind.i64 (i+Prod.snd (oneS i3)))] [AV.lit (Value.string s),AV.slc 1048577 [0,0] 0 (List.length (Prod.snd i4)),AV.lit (Value.int IntKind.i64 (Prod.fst i4))]∧hpL [(1048577,{ id:=[0,0],obj:=AObj.row true 3 (List.take (List.length ys) (List.drop 0 ys)++[AV.agg [AV.lit (Value.int IntKind.i64 (Prod.fst (oneS i3))),AV.lit (Value.int IntKind.i64 i),AV.lit (Value.string (ByteArray.extract s (Int.toNat (Option.getD (some i) (0:Int))) (Int.toNat (Option.getD (some (i+Prod.snd (oneS i3))) (↑(ByteArray.size s):Int)))))]]) })]=hpL [(1048577,{ id:=[0,0],obj:=AObj.row true 3 (Prod.snd i4) })])∧Ex.exit 0=Ex.exit 0∧Wk (AV.tup [AV.lit (Value.string s),AV.slc 1048577 [0,1] 0 (List.length zs)]) (AV.tup [AV.lit (Value.string s),AV.slc 1048577 [0,1] 0 (List.length zs)])∧SameH (hpL [(1048577,{ id:=[0,1],obj:=AObj.row true 3 zs })]) (hpL [(1048577,{ id:=[0,1],obj:=AObj.row true 3 zs })]))):=by kernel_rfl
def orLexB:Orc:=Orc.t (Orc.s Orc.z (Orc.f Orc.z))
theorem rLexB_vc (Q:Int→List AV→Prop)(s:ByteArray)(ys zs:List AV)(i:Int):rLexB orLexB Q s ys zs i=(decide (i<(↑(ByteArray.size s):Int))=true∧decide ((0:Int)≤i∧i<(↑(ByteArray.size s):Int))=true∧∃ (i1:Nat),(i1<256∧Wks [AV.lit (Value.string ⟨⟨[(32:UInt8),(9:UInt8),(10:UInt8)]⟩⟩),AV.lit (Value.int IntKind.u8 (↑(byteAt s (Int.toNat i)):Int))] [AV.lit (Value.string ⟨⟨[(32:UInt8),(9:UInt8),(10:UInt8)]⟩⟩),AV.lit (Value.int IntKind.u8 (↑i1:Int))]∧hpL []=hpL [])∧(decide (blankI i1≥(0:Int))=true→inR IntKind.i64 (i+(1:Int))=true∧∃ (i2:Int × List AV),(Q (Prod.fst i2) (Prod.snd i2)∧Wks [AV.lit (Value.string s),AV.slc 1048577 [0,0] 0 (List.length ys),AV.lit (Value.int IntKind.i64 (i+(1:Int)))] [AV.lit (Value.string s),AV.slc 1048577 [0,0] 0 (List.length (Prod.snd i2)),AV.lit (Value.int IntKind.i64 (Prod.fst i2))]∧hpL [(1048577,{ id:=[0,0],obj:=AObj.row true 3 ys })]=hpL [(1048577,{ id:=[0,0],obj:=AObj.row true 3 (Prod.snd i2) })])∧Ex.exit 0=Ex.exit 0∧Wk (AV.tup [AV.lit (Value.string s),AV.slc 1048577 [0,1] 0 (List.length zs)]) (AV.tup [AV.lit (Value.string s),AV.slc 1048577 [0,1] 0 (List.length zs)])∧SameH (hpL [(1048577,{ id:=[0,1],obj:=AObj.row true 3 zs })]) (hpL [(1048577,{ id:=[0,1],obj:=AObj.row true 3 zs })]))∧(decide (blankI i1≥(0:Int))=false→decide ((0:Int)≤Option.getD (some i) (0:Int)∧Option.getD (some i) (0:Int)≤Option.getD none (↑(ByteArray.size s):Int)∧Option.getD none (↑(ByteArray.size s):Int)≤(↑(ByteArray.size s):Int)∧false=false)=true∧∃ (i3:ByteArray),((0<ByteArray.size i3∧ByteArray.size i3≤600)∧Wks [AV.lit (Value.string (ByteArray.extract s (Int.toNat (Option.getD (some i) (0:Int))) (Int.toNat (Option.getD none (↑(ByteArray.size s):Int)))))] [AV.lit (Value.string i3)]∧hpL []=hpL [])∧(Prod.fst (oneS i3)==(0:Int))=false∧inR IntKind.i64 (i+Prod.snd (oneS i3))=true∧decide ((0:Int)≤Option.getD (some i) (0:Int)∧Option.getD (some i) (0:Int)≤Option.getD (some (i+Prod.snd (oneS i3))) (↑(ByteArray.size s):Int)∧Option.getD (some (i+Prod.snd (oneS i3))) (↑(ByteArray.size s):Int)≤(↑(ByteArray.size s):Int)∧false=false)=true∧(true&&(true&&Nat.ble (0+List.length ys) (List.length ys))&&(true&&decide (List.length (List.take (List.length ys) (List.drop 0 ys)++[AV.agg [AV.lit (Value.int IntKind.i64 (Prod.fst (oneS i3))),AV.lit (Value.int IntKind.i64 i),AV.lit (Value.string (ByteArray.extract s (Int.toNat (Option.getD (some i) (0:Int))) (Int.toNat (Option.getD (some (i+Prod.snd (oneS i3))) (↑(ByteArray.size s):Int)))))]])*32≤140737488355328∧List.length (List.take (List.length ys) (List.drop 0 ys)++[AV.agg [AV.lit (Value.int IntKind.i64 (Prod.fst (oneS i3))),AV.lit (Value.int IntKind.i64 i),AV.lit (Value.string (ByteArray.extract s (Int.toNat (Option.getD (some i) (0:Int))) (Int.toNat (Option.getD (some (i+Prod.snd (oneS i3))) (↑(ByteArray.size s):Int)))))]])≤1152921504606846976)))=true∧inR IntKind.i64 (i+Prod.snd (oneS i3))=true∧∃ (i4:Int × List AV),(Q (Prod.fst i4) (Prod.snd i4)∧Wks [AV.lit (Value.string s),AV.slc 1048577 [0,0] 0 (List.length (List.take (List.length ys) (List.drop 0 ys)++[AV.agg [AV.lit (Value.int IntKind.i64 (Prod.fst (oneS i3))),AV.lit (Value.int IntKind.i64 i),AV.lit (Value.string (ByteArray.extract s (Int.toNat (Option.getD (some i) (0:Int))) (Int.toNat (Option.getD (some (i+Prod.snd (oneS i3))) (↑(ByteArray.size s):Int)))))]])),AV.lit (Value.int IntKind.i64 (i+Prod.snd (oneS i3)))] [AV.lit (Value.string s),AV.slc 1048577 [0,0] 0 (List.length (Prod.snd i4)),AV.lit (Value.int IntKind.i64 (Prod.fst i4))]∧hpL [(1048577,{ id:=[0,0],obj:=AObj.row true 3 (List.take (List.length ys) (List.drop 0 ys)++[AV.agg [AV.lit (Value.int IntKind.i64 (Prod.fst (oneS i3))),AV.lit (Value.int IntKind.i64 i),AV.lit (Value.string (ByteArray.extract s (Int.toNat (Option.getD (some i) (0:Int))) (Int.toNat (Option.getD (some (i+Prod.snd (oneS i3))) (↑(ByteArray.size s):Int)))))]]) })]=hpL [(1048577,{ id:=[0,0],obj:=AObj.row true 3 (Prod.snd i4) })])∧Ex.exit 0=Ex.exit 0∧Wk (AV.tup [AV.lit (Value.string s),AV.slc 1048577 [0,1] 0 (List.length zs)]) (AV.tup [AV.lit (Value.string s),AV.slc 1048577 [0,1] 0 (List.length zs)])∧SameH (hpL [(1048577,{ id:=[0,1],obj:=AObj.row true 3 zs })]) (hpL [(1048577,{ id:=[0,1],obj:=AObj.row true 3 zs })]))):=by kernel_rfl
def orLexC:Orc:=Orc.t (Orc.s Orc.z (Orc.f Orc.z))
theorem rLexC_vc (Q:Int→List AV→Prop)(s:ByteArray)(ys zs:List AV)(i j:Int):rLexC orLexC Q s ys zs i j=(decide (i<(↑(ByteArray.size s):Int))=true∧decide ((0:Int)≤i∧i<(↑(ByteArray.size s):Int))=true∧∃ (i1:Nat),(i1<256∧Wks [AV.lit (Value.string ⟨⟨[(32:UInt8),(9:UInt8),(10:UInt8)]⟩⟩),AV.lit (Value.int IntKind.u8 (↑(byteAt s (Int.toNat i)):Int))] [AV.lit (Value.string ⟨⟨[(32:UInt8),(9:UInt8),(10:UInt8)]⟩⟩),AV.lit (Value.int IntKind.u8 (↑i1:Int))]∧hpL []=hpL [])∧(decide (blankI i1≥(0:Int))=true→inR IntKind.i64 (i+(1:Int))=true∧∃ (i2:Int × List AV),(Q (Prod.fst i2) (Prod.snd i2)∧Wks [AV.lit (Value.string s),AV.slc 1048577 [0,0] 0 (List.length ys),AV.lit (Value.int IntKind.i64 (i+(1:Int)))] [AV.lit (Value.string s),AV.slc 1048577 [0,0] 0 (List.length (Prod.snd i2)),AV.lit (Value.int IntKind.i64 (Prod.fst i2))]∧hpL [(1048577,{ id:=[0,0],obj:=AObj.row true 3 ys })]=hpL [(1048577,{ id:=[0,0],obj:=AObj.row true 3 (Prod.snd i2) })])∧Ex.ret=Ex.ret∧Wk (AV.tup [AV.lit (Value.slice none 0 0),AV.iface 118 (AV.ref (AV.agg [AV.lit (Value.int IntKind.i64 j),AV.iface 26 (AV.lit (Value.int IntKind.i64 (15:Int)))]))]) (AV.tup [AV.lit (Value.slice none 0 0),AV.iface 118 (AV.ref (AV.agg [AV.lit (Value.int IntKind.i64 j),AV.iface 26 (AV.lit (Value.int IntKind.i64 (15:Int)))]))])∧SameH (hpL [(1048577,{ id:=[0,1],obj:=AObj.row true 3 zs })]) (hpL [(1048577,{ id:=[0,1],obj:=AObj.row true 3 zs })]))∧(decide (blankI i1≥(0:Int))=false→decide ((0:Int)≤Option.getD (some i) (0:Int)∧Option.getD (some i) (0:Int)≤Option.getD none (↑(ByteArray.size s):Int)∧Option.getD none (↑(ByteArray.size s):Int)≤(↑(ByteArray.size s):Int)∧false=false)=true∧∃ (i3:ByteArray),((0<ByteArray.size i3∧ByteArray.size i3≤600)∧Wks [AV.lit (Value.string (ByteArray.extract s (Int.toNat (Option.getD (some i) (0:Int))) (Int.toNat (Option.getD none (↑(ByteArray.size s):Int)))))] [AV.lit (Value.string i3)]∧hpL []=hpL [])∧(Prod.fst (oneS i3)==(0:Int))=false∧inR IntKind.i64 (i+Prod.snd (oneS i3))=true∧decide ((0:Int)≤Option.getD (some i) (0:Int)∧Option.getD (some i) (0:Int)≤Option.getD (some (i+Prod.snd (oneS i3))) (↑(ByteArray.size s):Int)∧Option.getD (some (i+Prod.snd (oneS i3))) (↑(ByteArray.size s):Int)≤(↑(ByteArray.size s):Int)∧false=false)=true∧(true&&(true&&Nat.ble (0+List.length ys) (List.length ys))&&(true&&decide (List.length (List.take (List.length ys) (List.drop 0 ys)++[AV.agg [AV.lit (Value.int IntKind.i64 (Prod.fst (oneS i3))),AV.lit (Value.int IntKind.i64 i),AV.lit (Value.string (ByteArray.extract s (Int.toNat (Option.getD (some i) (0:Int))) (Int.toNat (Option.getD (some (i+Prod.snd (oneS i3))) (↑(ByteArray.size s):Int)))))]])*32≤140737488355328∧List.length (List.take (List.length ys) (List.drop 0 ys)++[AV.agg [AV.lit (Value.int IntKind.i64 (Prod.fst (oneS i3))),AV.lit (Value.int IntKind.i64 i),AV.lit (Value.string (ByteArray.extract s (Int.toNat (Option.getD (some i) (0:Int))) (Int.toNat (Option.getD (some (i+Prod.snd (oneS i3))) (↑(ByteArray.size s):Int)))))]])≤1152921504606846976)))=true∧inR IntKind.i64 (i+Prod.snd (oneS i3))=true∧∃ (i4:Int × List AV),(Q (Prod.fst i4) (Prod.snd i4)∧Wks [AV.lit (Value.string s),AV.slc 1048577 [0,0] 0 (List.length (List.take (List.length ys) (List.drop 0 ys)++[AV.agg [AV.lit (Value.int IntKind.i64 (Prod.fst (oneS i3))),AV.lit (Value.int IntKind.i64 i),AV.lit (Value.string (ByteArray.extract s (Int.toNat (Option.getD (some i) (0:Int))) (Int.toNat (Option.getD (some (i+Prod.snd (oneS i3))) (↑(ByteArray.size s):Int)))))]])),AV.lit (Value.int IntKind.i64 (i+Prod.snd (oneS i3)))] [AV.lit (Value.string s),AV.slc 1048577 [0,0] 0 (List.length (Prod.snd i4)),AV.lit (Value.int IntKind.i64 (Prod.fst i4))]∧hpL [(1048577,{ id:=[0,0],obj:=AObj.row true 3 (List.take (List.length ys) (List.drop 0 ys)++[AV.agg [AV.lit (Value.int IntKind.i64 (Prod.fst (oneS i3))),AV.lit (Value.int IntKind.i64 i),AV.lit (Value.string (ByteArray.extract s (Int.toNat (Option.getD (some i) (0:Int))) (Int.toNat (Option.getD (some (i+Prod.snd (oneS i3))) (↑(ByteArray.size s):Int)))))]]) })]=hpL [(1048577,{ id:=[0,0],obj:=AObj.row true 3 (Prod.snd i4) })])∧Ex.ret=Ex.ret∧Wk (AV.tup [AV.lit (Value.slice none 0 0),AV.iface 118 (AV.ref (AV.agg [AV.lit (Value.int IntKind.i64 j),AV.iface 26 (AV.lit (Value.int IntKind.i64 (15:Int)))]))]) (AV.tup [AV.lit (Value.slice none 0 0),AV.iface 118 (AV.ref (AV.agg [AV.lit (Value.int IntKind.i64 j),AV.iface 26 (AV.lit (Value.int IntKind.i64 (15:Int)))]))])∧SameH (hpL [(1048577,{ id:=[0,1],obj:=AObj.row true 3 zs })]) (hpL [(1048577,{ id:=[0,1],obj:=AObj.row true 3 zs })]))):=by kernel_rfl
def orLexD:Orc:=Orc.t (Orc.s Orc.z (Orc.f Orc.z))
theorem rLexD_vc (Q:Int→List AV→Prop)(s:ByteArray)(ys zs:List AV)(i j:Int):rLexD orLexD Q s ys zs i j=(decide (i<(↑(ByteArray.size s):Int))=true∧decide ((0:Int)≤i∧i<(↑(ByteArray.size s):Int))=true∧∃ (i1:Nat),(i1<256∧Wks [AV.lit (Value.string ⟨⟨[(32:UInt8),(9:UInt8),(10:UInt8)]⟩⟩),AV.lit (Value.int IntKind.u8 (↑(byteAt s (Int.toNat i)):Int))] [AV.lit (Value.string ⟨⟨[(32:UInt8),(9:UInt8),(10:UInt8)]⟩⟩),AV.lit (Value.int IntKind.u8 (↑i1:Int))]∧hpL []=hpL [])∧(decide (blankI i1≥(0:Int))=true→inR IntKind.i64 (i+(1:Int))=true∧∃ (i2:Int × List AV),(Q (Prod.fst i2) (Prod.snd i2)∧Wks [AV.lit (Value.string s),AV.slc 1048577 [0,0] 0 (List.length ys),AV.lit (Value.int IntKind.i64 (i+(1:Int)))] [AV.lit (Value.string s),AV.slc 1048577 [0,0] 0 (List.length (Prod.snd i2)),AV.lit (Value.int IntKind.i64 (Prod.fst i2))]∧hpL [(1048577,{ id:=[0,0],obj:=AObj.row true 3 ys })]=hpL [(1048577,{ id:=[0,0],obj:=AObj.row true 3 (Prod.snd i2) })])∧Ex.ret=Ex.ret∧Wk (AV.tup [AV.lit (Value.slice none 0 0),AV.iface 118 (AV.ref (AV.agg [AV.lit (Value.int IntKind.i64 j),AV.iface 26 (AV.lit (Value.int IntKind.i64 (15:Int)))]))]) (AV.tup [AV.lit (Value.slice none 0 0),AV.iface 118 (AV.ref (AV.agg [AV.lit (Value.int IntKind.i64 j),AV.iface 26 (AV.lit (Value.int IntKind.i64 (15:Int)))]))])∧SameH (hpL [(1048577,{ id:=[0,1],obj:=AObj.row true 3 zs })]) (hpL [(1048577,{ id:=[0,1],obj:=AObj.row true 3 zs })]))∧(decide (blankI i1≥(0:Int))=false→decide ((0:Int)≤Option.getD (some i) (0:Int)∧Option.getD (some i) (0:Int)≤Option.getD none (↑(ByteArray.size s):Int)∧Option.getD none (↑(ByteArray.size s):Int)≤(↑(ByteArray.size s):Int)∧false=false)=true∧∃ (i3:ByteArray),((0<ByteArray.size i3∧ByteArray.size i3≤600)∧Wks [AV.lit (Value.string (ByteArray.extract s (Int.toNat (Option.getD (some i) (0:Int))) (Int.toNat (Option.getD none (↑(ByteArray.size s):Int)))))] [AV.lit (Value.string i3)]∧hpL []=hpL [])∧(Prod.fst (oneS i3)==(0:Int))=false∧inR IntKind.i64 (i+Prod.snd (oneS i3))=true∧decide ((0:Int)≤Option.getD (some i) (0:Int)∧Option.getD (some i) (0:Int)≤Option.getD (some (i+Prod.snd (oneS i3))) (↑(ByteArray.size s):Int)∧Option.getD (some (i+Prod.snd (oneS i3))) (↑(ByteArray.size s):Int)≤(↑(ByteArray.size s):Int)∧false=false)=true∧(true&&(true&&Nat.ble (0+List.length ys) (List.length ys))&&(true&&decide (List.length (List.take (List.length ys) (List.drop 0 ys)++[AV.agg [AV.lit (Value.int IntKind.i64 (Prod.fst (oneS i3))),AV.lit (Value.int IntKind.i64 i),AV.lit (Value.string (ByteArray.extract s (Int.toNat (Option.getD (some i) (0:Int))) (Int.toNat (Option.getD (some (i+Prod.snd (oneS i3))) (↑(ByteArray.size s):Int)))))]])*32≤140737488355328∧List.length (List.take (List.length ys) (List.drop 0 ys)++[AV.agg [AV.lit (Value.int IntKind.i64 (Prod.fst (oneS i3))),AV.lit (Value.int IntKind.i64 i),AV.lit (Value.string (ByteArray.extract s (Int.toNat (Option.getD (some i) (0:Int))) (Int.toNat (Option.getD (some (i+Prod.snd (oneS i3))) (↑(ByteArray.size s):Int)))))]])≤1152921504606846976)))=true∧inR IntKind.i64 (i+Prod.snd (oneS i3))=true∧∃ (i4:Int × List AV),(Q (Prod.fst i4) (Prod.snd i4)∧Wks [AV.lit (Value.string s),AV.slc 1048577 [0,0] 0 (List.length (List.take (List.length ys) (List.drop 0 ys)++[AV.agg [AV.lit (Value.int IntKind.i64 (Prod.fst (oneS i3))),AV.lit (Value.int IntKind.i64 i),AV.lit (Value.string (ByteArray.extract s (Int.toNat (Option.getD (some i) (0:Int))) (Int.toNat (Option.getD (some (i+Prod.snd (oneS i3))) (↑(ByteArray.size s):Int)))))]])),AV.lit (Value.int IntKind.i64 (i+Prod.snd (oneS i3)))] [AV.lit (Value.string s),AV.slc 1048577 [0,0] 0 (List.length (Prod.snd i4)),AV.lit (Value.int IntKind.i64 (Prod.fst i4))]∧hpL [(1048577,{ id:=[0,0],obj:=AObj.row true 3 (List.take (List.length ys) (List.drop 0 ys)++[AV.agg [AV.lit (Value.int IntKind.i64 (Prod.fst (oneS i3))),AV.lit (Value.int IntKind.i64 i),AV.lit (Value.string (ByteArray.extract s (Int.toNat (Option.getD (some i) (0:Int))) (Int.toNat (Option.getD (some (i+Prod.snd (oneS i3))) (↑(ByteArray.size s):Int)))))]]) })]=hpL [(1048577,{ id:=[0,0],obj:=AObj.row true 3 (Prod.snd i4) })])∧Ex.ret=Ex.ret∧Wk (AV.tup [AV.lit (Value.slice none 0 0),AV.iface 118 (AV.ref (AV.agg [AV.lit (Value.int IntKind.i64 j),AV.iface 26 (AV.lit (Value.int IntKind.i64 (15:Int)))]))]) (AV.tup [AV.lit (Value.slice none 0 0),AV.iface 118 (AV.ref (AV.agg [AV.lit (Value.int IntKind.i64 j),AV.iface 26 (AV.lit (Value.int IntKind.i64 (15:Int)))]))])∧SameH (hpL [(1048577,{ id:=[0,1],obj:=AObj.row true 3 zs })]) (hpL [(1048577,{ id:=[0,1],obj:=AObj.row true 3 zs })]))):=by kernel_rfl
theorem gLexA_vc (s:ByteArray)(zs:List AV):gLexA (Orc.f Orc.z) s zs=(decide ((↑(ByteArray.size s):Int)>(600:Int))=false∧∃ (i1:Int × List AV),((Prod.fst i1=(0:Int)∧Prod.snd i1=[])∧Wks [AV.lit (Value.string s),AV.slc 1048577 [0,0] 0 0,AV.lit (Value.int IntKind.i64 (0:Int))] [AV.lit (Value.string s),AV.slc 1048577 [0,0] 0 (List.length (Prod.snd i1)),AV.lit (Value.int IntKind.i64 (Prod.fst i1))]∧hpL [(1048577,{ id:=[0,0],obj:=AObj.row true 3 [] })]=hpL [(1048577,{ id:=[0,0],obj:=AObj.row true 3 (Prod.snd i1) })])∧(true&&(Nat.beq 3 3&&Nat.ble (0+List.length zs) (List.length zs))&&(Nat.beq 3 3&&decide (List.length (List.take (List.length zs) (List.drop 0 zs)++[AV.agg [AV.lit (Value.int IntKind.i64 (11:Int)),AV.lit (Value.int IntKind.i64 (↑(ByteArray.size s):Int)),AV.lit (Value.string ⟨⟨[]⟩⟩)]])*32≤140737488355328∧List.length (List.take (List.length zs) (List.drop 0 zs)++[AV.agg [AV.lit (Value.int IntKind.i64 (11:Int)),AV.lit (Value.int IntKind.i64 (↑(ByteArray.size s):Int)),AV.lit (Value.string ⟨⟨[]⟩⟩)]])≤1152921504606846976)))=true∧0+List.length (List.take (List.length zs) (List.drop 0 zs)++[AV.agg [AV.lit (Value.int IntKind.i64 (11:Int)),AV.lit (Value.int IntKind.i64 (↑(ByteArray.size s):Int)),AV.lit (Value.string ⟨⟨[]⟩⟩)]])≤List.length (List.take (List.length zs) (List.drop 0 zs)++[AV.agg [AV.lit (Value.int IntKind.i64 (11:Int)),AV.lit (Value.int IntKind.i64 (↑(ByteArray.size s):Int)),AV.lit (Value.string ⟨⟨[]⟩⟩)]])∧Wk (AV.tup [AV.lst false 3 (List.take (List.length (List.take (List.length zs) (List.drop 0 zs)++[AV.agg [AV.lit (Value.int IntKind.i64 (11:Int)),AV.lit (Value.int IntKind.i64 (↑(ByteArray.size s):Int)),AV.lit (Value.string ⟨⟨[]⟩⟩)]])) (List.drop 0 (List.take (List.length zs) (List.drop 0 zs)++[AV.agg [AV.lit (Value.int IntKind.i64 (11:Int)),AV.lit (Value.int IntKind.i64 (↑(ByteArray.size s):Int)),AV.lit (Value.string ⟨⟨[]⟩⟩)]]))),AV.lit Value.nilIface]) (AV.tup [AV.lst false 3 (zs++[AV.agg [AV.lit (Value.int IntKind.i64 (11:Int)),AV.lit (Value.int IntKind.i64 (↑(ByteArray.size s):Int)),AV.lit (Value.string ByteArray.empty)]]),AV.lit Value.nilIface])∧SameH (hpL []) (hpL [])):=by kernel_rfl
theorem gLexB_vc (s:ByteArray)(zs:List AV):gLexB (Orc.f Orc.z) s zs=(decide ((↑(ByteArray.size s):Int)>(600:Int))=false∧∃ (i1:Int × List AV),((Prod.fst i1=(0:Int)∧Prod.snd i1=[])∧Wks [AV.lit (Value.string s),AV.slc 1048577 [0,0] 0 0,AV.lit (Value.int IntKind.i64 (0:Int))] [AV.lit (Value.string s),AV.slc 1048577 [0,0] 0 (List.length (Prod.snd i1)),AV.lit (Value.int IntKind.i64 (Prod.fst i1))]∧hpL [(1048577,{ id:=[0,0],obj:=AObj.row true 3 [] })]=hpL [(1048577,{ id:=[0,0],obj:=AObj.row true 3 (Prod.snd i1) })])∧(true&&(Nat.beq 3 3&&Nat.ble (0+List.length zs) (List.length zs))&&(Nat.beq 3 3&&decide (List.length (List.take (List.length zs) (List.drop 0 zs)++[AV.agg [AV.lit (Value.int IntKind.i64 (11:Int)),AV.lit (Value.int IntKind.i64 (↑(ByteArray.size s):Int)),AV.lit (Value.string ⟨⟨[]⟩⟩)]])*32≤140737488355328∧List.length (List.take (List.length zs) (List.drop 0 zs)++[AV.agg [AV.lit (Value.int IntKind.i64 (11:Int)),AV.lit (Value.int IntKind.i64 (↑(ByteArray.size s):Int)),AV.lit (Value.string ⟨⟨[]⟩⟩)]])≤1152921504606846976)))=true∧0+List.length (List.take (List.length zs) (List.drop 0 zs)++[AV.agg [AV.lit (Value.int IntKind.i64 (11:Int)),AV.lit (Value.int IntKind.i64 (↑(ByteArray.size s):Int)),AV.lit (Value.string ⟨⟨[]⟩⟩)]])≤List.length (List.take (List.length zs) (List.drop 0 zs)++[AV.agg [AV.lit (Value.int IntKind.i64 (11:Int)),AV.lit (Value.int IntKind.i64 (↑(ByteArray.size s):Int)),AV.lit (Value.string ⟨⟨[]⟩⟩)]])∧Wk (AV.tup [AV.lst false 3 (List.take (List.length (List.take (List.length zs) (List.drop 0 zs)++[AV.agg [AV.lit (Value.int IntKind.i64 (11:Int)),AV.lit (Value.int IntKind.i64 (↑(ByteArray.size s):Int)),AV.lit (Value.string ⟨⟨[]⟩⟩)]])) (List.drop 0 (List.take (List.length zs) (List.drop 0 zs)++[AV.agg [AV.lit (Value.int IntKind.i64 (11:Int)),AV.lit (Value.int IntKind.i64 (↑(ByteArray.size s):Int)),AV.lit (Value.string ⟨⟨[]⟩⟩)]]))),AV.lit Value.nilIface]) (AV.tup [AV.lst false 3 (zs++[AV.agg [AV.lit (Value.int IntKind.i64 (11:Int)),AV.lit (Value.int IntKind.i64 (↑(ByteArray.size s):Int)),AV.lit (Value.string ByteArray.empty)]]),AV.lit Value.nilIface])∧SameH (hpL []) (hpL [])):=by kernel_rfl
theorem gLexC_vc (s:ByteArray)(zs:List AV)(j:Int):gLexC (Orc.f Orc.z) s zs j=(let z1:=AV.iface 118 (AV.ref (AV.agg [i0 j,AV.iface 26 (i0 (15:Int))])); decide ((↑(ByteArray.size s):Int)>(600:Int))=false∧∃ (i1:Int × List AV),((Prod.fst i1=(0:Int)∧Prod.snd i1=[])∧Wks [s0 s,AV.slc 1048577 [0,0] 0 0,i0 (0:Int)] [s0 s,AV.slc 1048577 [0,0] 0 (List.length (Prod.snd i1)),i0 (Prod.fst i1)]∧hpL [eR 1048577 [0,0] 3 []]=hpL [eR 1048577 [0,0] 3 (Prod.snd i1)])∧Wk (AV.tup [AV.lit (Value.slice none 0 0),z1]) (AV.tup [AV.lst false 3 [],z1])∧SameH (hpL []) (hpL [])):=by kernel_rfl
theorem gLexD_vc (s:ByteArray)(zs:List AV)(j:Int):gLexD (Orc.f Orc.z) s zs j=(let z1:=AV.iface 118 (AV.ref (AV.agg [i0 j,AV.iface 26 (i0 (15:Int))])); decide ((↑(ByteArray.size s):Int)>(600:Int))=false∧∃ (i1:Int × List AV),((Prod.fst i1=(0:Int)∧Prod.snd i1=[])∧Wks [s0 s,AV.slc 1048577 [0,0] 0 0,i0 (0:Int)] [s0 s,AV.slc 1048577 [0,0] 0 (List.length (Prod.snd i1)),i0 (Prod.fst i1)]∧hpL [eR 1048577 [0,0] 3 []]=hpL [eR 1048577 [0,0] 3 (Prod.snd i1)])∧Wk (AV.tup [AV.lit (Value.slice none 0 0),z1]) (AV.tup [AV.lst false 3 [],z1])∧SameH (hpL []) (hpL [])):=by kernel_rfl
end Go.Proofs.YtpofhijgccocpaaGreatDoor
end
section
namespace Go.Proofs.YtpofhijgccocpaaGreatDoor
open Go.AS Go.TP
noncomputable section
theorem blankI_pos (c:Nat):(0≤blankI c)=(blankN c=true):=by
 unfold blankI blankN
 simp only [Bool.or_eq_true,decide_eq_true_eq]
 by_cases h1:c=32
 · simp [h1]
 · by_cases h2:c=9
   · simp [h2]
   · by_cases h3:c=10
     · simp [h3]
     · simp [h1,h2,h3]
theorem hasP_size {s p:ByteArray}(h:hasP s p=true):p.size≤s.size:=by
 unfold hasP at h
 rw [Bool.and_eq_true] at h
 exact of_decide_eq_true h.1
theorem sign_le (s:ByteArray)(h0:0<s.size)(h:(signS s).1≠0):1≤(signS s).2∧(signS s).2≤s.size:=by
 unfold signS signC at h ⊢
 generalize byteAt s 0=c at h ⊢
 have e1:bCC.size=2:=rfl
 have e2:bDD.size=2:=rfl
 have h1:(1:Int)≤s.size:=by omega
 by_cases k1:c=58
 · rw [if_pos k1] at h ⊢
   by_cases k2:hasP s bCC=true
   · have:=hasP_size k2
     rw [if_pos k2]; constructor
     · show (1:Int)≤2; omega
     · show (2:Int)≤s.size; omega
   · rw [if_neg k2] at h ⊢
     by_cases k3:hasP s bDD=true
     · have:=hasP_size k3
       rw [if_pos k3]; constructor
       · show (1:Int)≤2; omega
       · show (2:Int)≤s.size; omega
     · rw [if_neg k3] at h; exact absurd rfl h
 rw [if_neg k1] at h ⊢
 by_cases k1:c=46
 · rw [if_pos k1] at h ⊢
   by_cases k3:hasP s bDD=true
   · have:=hasP_size k3
     rw [if_pos k3]; constructor
     · show (1:Int)≤2; omega
     · show (2:Int)≤s.size; omega
   · rw [if_neg k3] at h; exact absurd rfl h
 rw [if_neg k1] at h ⊢
 by_cases k:c=40
 · rw [if_pos k]; exact ⟨Int.le_refl _,h1⟩
 rw [if_neg k] at h ⊢
 by_cases k:c=41
 · rw [if_pos k]; exact ⟨Int.le_refl _,h1⟩
 rw [if_neg k] at h ⊢
 by_cases k:c=44
 · rw [if_pos k]; exact ⟨Int.le_refl _,h1⟩
 rw [if_neg k] at h ⊢
 by_cases k:c=43∨c=124
 · rw [if_pos k]; exact ⟨Int.le_refl _,h1⟩
 rw [if_neg k] at h ⊢
 by_cases k:c=45
 · rw [if_pos k]; exact ⟨Int.le_refl _,h1⟩
 rw [if_neg k] at h ⊢
 by_cases k:c=38
 · rw [if_pos k]; exact ⟨Int.le_refl _,h1⟩
 rw [if_neg k] at h ⊢
 by_cases k:c=33
 · rw [if_pos k]; exact ⟨Int.le_refl _,h1⟩
 rw [if_neg k] at h ⊢
 exact absurd rfl h
theorem one_le (s:ByteArray)(h0:0<s.size)(h:(oneS s).1≠0):1≤(oneS s).2∧(oneS s).2≤s.size:=by
 unfold oneS at h ⊢
 have hw:=wordS_le s
 by_cases k:0<wordS s
 · rw [if_pos k]; exact ⟨by show (1:Int)≤wordS s; omega,hw.2⟩
 · rw [if_neg k] at h ⊢; exact sign_le s h0 h
abbrev restS (s:ByteArray)(i:Int):ByteArray:=s.extract i.toNat s.size
theorem rest_size (s:ByteArray)(i:Int)(h0:0≤i)(h1:i≤s.size):((restS s i).size:Int)=s.size-i:=by
 rw [ByteArray.size_extract]; omega
abbrev tokAt (s:ByteArray)(i:Int):Tk:=⟨(oneS (restS s i)).1,i,s.extract i.toNat (i+(oneS (restS s i)).2).toNat⟩
theorem rLexE_ok {Q:Int→List AV→Prop}{s:ByteArray}{ys:List AV}{i:Int}(h:¬i<s.size):rLexE (Orc.f Orc.z) Q s ys i:=by
 rw [rLexE_vc]; exact ⟨decide_eq_false h,rfl, .refl _, .rfl⟩
theorem rLexX_ok {Q:Int→List AV→Prop}{s:ByteArray}{ys:List AV}{i:Int}(hs:s.size≤600)(h0:0≤i)(h:i<s.size)(hb:blankN (byteAt s i.toNat)=false)(ho:(oneS (restS s i)).1=0):rLexX (Orc.t (Orc.f (Orc.t Orc.z))) Q s ys i:=by
 rw [rLexX_vc]
 have hr:=rest_size s i h0 (by omega)
 exact ⟨decide_eq_true h,decide_eq_true ⟨h0,h⟩,_,⟨byteAt_lt _ _, .refl _,rfl⟩,decide_eq_false (by rw [ge_iff_le,blankI_pos,hb]; decide),decide_eq_true ⟨h0,by show i≤s.size; omega,Int.le_refl _,rfl⟩,restS s i,
  ⟨⟨by omega,by omega⟩, .refl _,rfl⟩,beq_iff_eq.2 ho,rfl, .refl _, .rfl⟩
theorem rLexA_ok {Q:Int→List AV→Prop}{s:ByteArray}{ys zs:List AV}{i:Int}(hs:s.size≤600)(hy:ys.length≤600)(h0:0≤i)(h:i<s.size)(h1:blankN (byteAt s i.toNat)=true→Q (i+1) ys)
  (h2:blankN (byteAt s i.toNat)=false→(oneS (restS s i)).1≠0∧Q (i+(oneS (restS s i)).2) (ys++[encT (tokAt s i)])):rLexA orLexA Q s ys zs i:=by
 rw [rLexA_vc]
 have hr:=rest_size s i h0 (by omega)
 have e:List.take ys.length (List.drop 0 ys)=ys:=by rw [List.drop_zero,List.take_length]
 rw [e]
 refine ⟨decide_eq_true h,decide_eq_true ⟨h0,h⟩,_,⟨byteAt_lt _ _, .refl _,rfl⟩,fun g => ?_,fun g => ?_⟩
 · have g:=of_decide_eq_true g
   rw [ge_iff_le,blankI_pos] at g
   exact ⟨inR_i64 (by omega) (by omega),(_,ys),⟨h1 g, .refl _,rfl⟩,rfl, .refl _, .rfl⟩
 · have g:=of_decide_eq_false g
   rw [ge_iff_le,blankI_pos,Bool.not_eq_true] at g
   obtain ⟨k1,k2⟩:=h2 g
   have k3:=one_le (restS s i) (by omega) k1
   refine ⟨decide_eq_true ⟨h0,by show i≤s.size; omega,Int.le_refl _,rfl⟩,restS s i,⟨⟨by omega,by omega⟩, .refl _,rfl⟩,beq_eq_false_iff_ne.2 k1,inR_i64 (by omega) (by omega),decide_eq_true ⟨h0,?_,?_,rfl⟩,?_,inR_i64 (by omega) (by omega),(_,_),⟨k2, .refl _,rfl⟩,rfl, .refl _, .rfl⟩
   · show i≤i+(oneS (restS s i)).2; omega
   · show i+(oneS (restS s i)).2≤s.size; omega
   · simp; omega
theorem rLexB_ok {Q:Int→List AV→Prop}{s:ByteArray}{ys zs:List AV}{i:Int}(hs:s.size≤600)(hy:ys.length≤600)(h0:0≤i)(h:i<s.size)(h1:blankN (byteAt s i.toNat)=true→Q (i+1) ys)
  (h2:blankN (byteAt s i.toNat)=false→(oneS (restS s i)).1≠0∧Q (i+(oneS (restS s i)).2) (ys++[encT (tokAt s i)])):rLexB orLexB Q s ys zs i:=by
 rw [rLexB_vc]
 have hr:=rest_size s i h0 (by omega)
 have e:List.take ys.length (List.drop 0 ys)=ys:=by rw [List.drop_zero,List.take_length]
 rw [e]
 refine ⟨decide_eq_true h,decide_eq_true ⟨h0,h⟩,_,⟨byteAt_lt _ _, .refl _,rfl⟩,fun g => ?_,fun g => ?_⟩
 · have g:=of_decide_eq_true g
   rw [ge_iff_le,blankI_pos] at g
   exact ⟨inR_i64 (by omega) (by omega),(_,ys),⟨h1 g, .refl _,rfl⟩,rfl, .refl _, .rfl⟩
 · have g:=of_decide_eq_false g
   rw [ge_iff_le,blankI_pos,Bool.not_eq_true] at g
   obtain ⟨k1,k2⟩:=h2 g
   have k3:=one_le (restS s i) (by omega) k1
   refine ⟨decide_eq_true ⟨h0,by show i≤s.size; omega,Int.le_refl _,rfl⟩,restS s i,⟨⟨by omega,by omega⟩, .refl _,rfl⟩,beq_eq_false_iff_ne.2 k1,inR_i64 (by omega) (by omega),decide_eq_true ⟨h0,?_,?_,rfl⟩,?_,inR_i64 (by omega) (by omega),(_,_),⟨k2, .refl _,rfl⟩,rfl, .refl _, .rfl⟩
   · show i≤i+(oneS (restS s i)).2; omega
   · show i+(oneS (restS s i)).2≤s.size; omega
   · simp; omega
theorem rLexC_ok {Q:Int→List AV→Prop}{s:ByteArray}{ys zs:List AV}{i:Int}{j:Int}(hs:s.size≤600)(hy:ys.length≤600)(h0:0≤i)(h:i<s.size)(h1:blankN (byteAt s i.toNat)=true→Q (i+1) ys)
  (h2:blankN (byteAt s i.toNat)=false→(oneS (restS s i)).1≠0∧Q (i+(oneS (restS s i)).2) (ys++[encT (tokAt s i)])):rLexC orLexC Q s ys zs i j:=by
 rw [rLexC_vc]
 have hr:=rest_size s i h0 (by omega)
 have e:List.take ys.length (List.drop 0 ys)=ys:=by rw [List.drop_zero,List.take_length]
 rw [e]
 refine ⟨decide_eq_true h,decide_eq_true ⟨h0,h⟩,_,⟨byteAt_lt _ _, .refl _,rfl⟩,fun g => ?_,fun g => ?_⟩
 · have g:=of_decide_eq_true g
   rw [ge_iff_le,blankI_pos] at g
   exact ⟨inR_i64 (by omega) (by omega),(_,ys),⟨h1 g, .refl _,rfl⟩,rfl, .refl _, .rfl⟩
 · have g:=of_decide_eq_false g
   rw [ge_iff_le,blankI_pos,Bool.not_eq_true] at g
   obtain ⟨k1,k2⟩:=h2 g
   have k3:=one_le (restS s i) (by omega) k1
   refine ⟨decide_eq_true ⟨h0,by show i≤s.size; omega,Int.le_refl _,rfl⟩,restS s i,⟨⟨by omega,by omega⟩, .refl _,rfl⟩,beq_eq_false_iff_ne.2 k1,inR_i64 (by omega) (by omega),decide_eq_true ⟨h0,?_,?_,rfl⟩,?_,inR_i64 (by omega) (by omega),(_,_),⟨k2, .refl _,rfl⟩,rfl, .refl _, .rfl⟩
   · show i≤i+(oneS (restS s i)).2; omega
   · show i+(oneS (restS s i)).2≤s.size; omega
   · simp; omega
theorem rLexD_ok {Q:Int→List AV→Prop}{s:ByteArray}{ys zs:List AV}{i:Int}{j:Int}(hs:s.size≤600)(hy:ys.length≤600)(h0:0≤i)(h:i<s.size)(h1:blankN (byteAt s i.toNat)=true→Q (i+1) ys)
  (h2:blankN (byteAt s i.toNat)=false→(oneS (restS s i)).1≠0∧Q (i+(oneS (restS s i)).2) (ys++[encT (tokAt s i)])):rLexD orLexD Q s ys zs i j:=by
 rw [rLexD_vc]
 have hr:=rest_size s i h0 (by omega)
 have e:List.take ys.length (List.drop 0 ys)=ys:=by rw [List.drop_zero,List.take_length]
 rw [e]
 refine ⟨decide_eq_true h,decide_eq_true ⟨h0,h⟩,_,⟨byteAt_lt _ _, .refl _,rfl⟩,fun g => ?_,fun g => ?_⟩
 · have g:=of_decide_eq_true g
   rw [ge_iff_le,blankI_pos] at g
   exact ⟨inR_i64 (by omega) (by omega),(_,ys),⟨h1 g, .refl _,rfl⟩,rfl, .refl _, .rfl⟩
 · have g:=of_decide_eq_false g
   rw [ge_iff_le,blankI_pos,Bool.not_eq_true] at g
   obtain ⟨k1,k2⟩:=h2 g
   have k3:=one_le (restS s i) (by omega) k1
   refine ⟨decide_eq_true ⟨h0,by show i≤s.size; omega,Int.le_refl _,rfl⟩,restS s i,⟨⟨by omega,by omega⟩, .refl _,rfl⟩,beq_eq_false_iff_ne.2 k1,inR_i64 (by omega) (by omega),decide_eq_true ⟨h0,?_,?_,rfl⟩,?_,inR_i64 (by omega) (by omega),(_,_),⟨k2, .refl _,rfl⟩,rfl, .refl _, .rfl⟩
   · show i≤i+(oneS (restS s i)).2; omega
   · show i+(oneS (restS s i)).2≤s.size; omega
   · simp; omega
abbrev BLex (xs:List AV)(σ:Hp)(r:Ex × Back):Prop:=BlkOk Tryz.prog gl0 (fn fLex).ntmps (loopAt (code fLex) 0) [0,4,5] lexOuts xs σ fun _ q=>q=r
abbrev lexSpl (Q:Int→List AV→Prop)(s:ByteArray)(r:Ex × Back):Spl:=⟨Int × List AV,fun q=>Q q.1 q.2,fun q=>lexArgs s q.2 q.1,fun q=>lexHeap q.2,fun _=>r⟩
set_option maxRecDepth 100000 in
theorem lexRound {os:Orc}{fc:List Nat}{Q:Int→List AV→Prop}{s:ByteArray}{ys:List AV}{i:Int}{r r':Ex × Back}(ih:∀ i' ys',Q i' ys'→BLex (lexArgs s ys' i') (lexHeap ys') r')(h:rLex os fc Q s ys i r r'):BLex (lexArgs s ys i) (lexHeap ys) r :=
 lp_round (X:=X3.ask [fLex]) (X3_ok.ask _) (f:=fLex) (fn:=fn fLex) (code:=code fLex) (fnOk fLex (by kernel_rfl)) (show (fn fLex).body=some (code fLex) by kernel_rfl) (L:=lpLex Q s r') (L':=lpLex Q s r') (l:=[lexSpl Q s r']) rfl (show ([0,4,5]:List Nat).Nodup by decide)
  (fun s' hs' q hq=>by obtain rfl:=List.mem_singleton.1 hs'; exact ih q.1 q.2 hq) h
def LexForm (s:ByteArray)(r:Option Int × List Tk)(q:Ex × Back):Prop:=match r with
 | (none,ts)=>∃ c,(c=0∨c=1)∧q=lexOut c s (ts.map encT)
 | (some j,_)=>∃ c ys,(c=0∨c=1)∧q=lexBad c ys j
attribute [local irreducible] runL in
set_option maxRecDepth 100000 in
theorem lexL (s:ByteArray)(hs:s.size≤600):∀ (f:Nat)(i:Int)(out:List Tk),0≤i→s.size-i≤f→out.length+(s.size-i)≤600→i≤s.size →
  ∃ q,LexForm s (lexG s f i out) q∧BLex (lexArgs s (out.map encT) i) (lexHeap (out.map encT)) q:=by
 intro f
 induction f with
 | zero =>
  intro i out h0 h1 _ _
  exact ⟨lexOut 0 s (out.map encT),⟨0, .inl rfl,rfl⟩,lexRound (Q:=fun _ _=>False) (r':=lexOut 0 s (out.map encT)) (fun _ _ h=>h.elim) (rLexE_ok (by omega))⟩
 | succ f ih =>
  intro i out h0 h1 hl h2
  rw [lexG]
  by_cases hi:i<s.size
  · rw [if_pos hi]
    have hr:=rest_size s i h0 h2
    by_cases hb:blankN (byteAt s i.toNat)=true
    · rw [if_pos hb]
      obtain ⟨q,hq,hB⟩:=ih (i+1) out (by omega) (by omega) (by omega) (by omega)
      have hQ:∀ i' ys',(i'=i+1∧ys'=out.map encT)→BLex (lexArgs s ys' i') (lexHeap ys') q:=fun i' ys' h=>by rw [h.1,h.2]; exact hB
      have hy:(out.map encT).length≤600:=by rw [List.length_map]; omega
      generalize lexG s f (i+1) out=R at hq
      obtain ⟨_ | j,ts⟩:=R
      · obtain ⟨c,hc,rfl⟩:=hq
        refine ⟨lexOut 1 s (ts.map encT),⟨1, .inr rfl,rfl⟩,?_⟩
        rcases hc with rfl | rfl
        · exact lexRound hQ (rLexA_ok hs hy h0 hi (fun _=>⟨rfl,rfl⟩) (fun h=>by rw [hb] at h; cases h))
        · exact lexRound hQ (rLexB_ok hs hy h0 hi (fun _=>⟨rfl,rfl⟩) (fun h=>by rw [hb] at h; cases h))
      · obtain ⟨c,ys,hc,rfl⟩:=hq
        refine ⟨lexBad 1 ys j,⟨1,ys, .inr rfl,rfl⟩,?_⟩
        rcases hc with rfl | rfl
        · exact lexRound hQ (rLexC_ok hs hy h0 hi (fun _=>⟨rfl,rfl⟩) (fun h=>by rw [hb] at h; cases h))
        · exact lexRound hQ (rLexD_ok hs hy h0 hi (fun _=>⟨rfl,rfl⟩) (fun h=>by rw [hb] at h; cases h))
    · rw [if_neg hb]
      have hb':blankN (byteAt s i.toNat)=false:=by simpa using hb
      show ∃ q,LexForm s (if (oneS (restS s i)).1=0 then (some i,[]) else lexG s f (i+(oneS (restS s i)).2) (out++[tokAt s i])) q∧_
      by_cases ho:(oneS (restS s i)).1=0
      · rw [if_pos ho]
        exact ⟨lexBad 0 (out.map encT) i,⟨0,_, .inl rfl,rfl⟩,lexRound (Q:=fun _ _=>False) (r':=lexOut 0 s (out.map encT)) (fun _ _ h=>h.elim) (rLexX_ok hs h0 hi hb' ho)⟩
      · rw [if_neg ho]
        have k3:=one_le (restS s i) (by omega) ho
        obtain ⟨q,hq,hB⟩:=ih (i+(oneS (restS s i)).2) (out++[tokAt s i]) (by omega) (by omega) (by rw [List.length_append,List.length_singleton]; omega) (by omega)
        have hQ:∀ i' ys',(i'=i+(oneS (restS s i)).2∧ys'=out.map encT++[encT (tokAt s i)])→BLex (lexArgs s ys' i') (lexHeap ys') q:=fun i' ys' h=>by rw [h.1,h.2]; rw [List.map_append] at hB; exact hB
        have hy:(out.map encT).length≤600:=by rw [List.length_map]; omega
        generalize lexG s f (i+(oneS (restS s i)).2) (out++[tokAt s i])=R at hq
        obtain ⟨_ | j,ts⟩:=R
        · obtain ⟨c,hc,rfl⟩:=hq
          refine ⟨lexOut 1 s (ts.map encT),⟨1, .inr rfl,rfl⟩,?_⟩
          rcases hc with rfl | rfl
          · exact lexRound hQ (rLexA_ok hs hy h0 hi (fun h=>by rw [hb'] at h; cases h) (fun _=>⟨ho,rfl,rfl⟩))
          · exact lexRound hQ (rLexB_ok hs hy h0 hi (fun h=>by rw [hb'] at h; cases h) (fun _=>⟨ho,rfl,rfl⟩))
        · obtain ⟨c,ys,hc,rfl⟩:=hq
          refine ⟨lexBad 1 ys j,⟨1,ys, .inr rfl,rfl⟩,?_⟩
          rcases hc with rfl | rfl
          · exact lexRound hQ (rLexC_ok hs hy h0 hi (fun h=>by rw [hb'] at h; cases h) (fun _=>⟨ho,rfl,rfl⟩))
          · exact lexRound hQ (rLexD_ok hs hy h0 hi (fun h=>by rw [hb'] at h; cases h) (fun _=>⟨ho,rfl,rfl⟩))
  · rw [if_neg hi]
    exact ⟨lexOut 0 s (out.map encT),⟨0, .inl rfl,rfl⟩,lexRound (Q:=fun _ _=>False) (r':=lexOut 0 s (out.map encT)) (fun _ _ h=>h.elim) (rLexE_ok hi)⟩
theorem gLexA_ok (s:ByteArray)(zs:List AV)(h:s.size≤600)(hz:zs.length≤600):gLexA (Orc.f Orc.z) s zs:=by
 rw [gLexA_vc]
 have e:List.take zs.length (List.drop 0 zs)=zs:=by rw [List.drop_zero,List.take_length]
 have e2:∀ l:List AV,List.take l.length (List.drop 0 l)=l:=fun l=>by rw [List.drop_zero,List.take_length]
 rw [e,e2]
 exact ⟨decide_eq_false (by omega),(_,_),⟨⟨rfl,rfl⟩, .refl _,rfl⟩,by simp; omega,by simp, .refl _, .rfl⟩
theorem gLexB_ok (s:ByteArray)(zs:List AV)(h:s.size≤600)(hz:zs.length≤600):gLexB (Orc.f Orc.z) s zs:=by
 rw [gLexB_vc]
 have e:List.take zs.length (List.drop 0 zs)=zs:=by rw [List.drop_zero,List.take_length]
 have e2:∀ l:List AV,List.take l.length (List.drop 0 l)=l:=fun l=>by rw [List.drop_zero,List.take_length]
 rw [e,e2]
 exact ⟨decide_eq_false (by omega),(_,_),⟨⟨rfl,rfl⟩, .refl _,rfl⟩,by simp; omega,by simp, .refl _, .rfl⟩
theorem gLexC_ok (s:ByteArray)(zs:List AV)(j:Int)(h:s.size≤600):gLexC (Orc.f Orc.z) s zs j:=by
 rw [gLexC_vc]; exact ⟨decide_eq_false (by omega),(_,_),⟨⟨rfl,rfl⟩, .refl _,rfl⟩, .tup (.cons .nilS (.refl _)), .rfl⟩
theorem gLexD_ok (s:ByteArray)(zs:List AV)(j:Int)(h:s.size≤600):gLexD (Orc.f Orc.z) s zs j:=by
 rw [gLexD_vc]; exact ⟨decide_eq_false (by omega),(_,_),⟨⟨rfl,rfl⟩, .refl _,rfl⟩, .tup (.cons .nilS (.refl _)), .rfl⟩
end
end Go.Proofs.YtpofhijgccocpaaGreatDoor
end
section
namespace Go.Proofs.YtpofhijgccocpaaGreatDoor
open Go.AS Go.TP
noncomputable section
def encLex:LexR→AV
 | .long => .tup [.lst false 3 [], .iface tErrno (i0 5)]
 | .bad i => .tup [.lst false 3 [],encErr 15 i]
 | .ok ts => .tup [.lst false 3 (ts.map encT), .lit .nilIface]
theorem lexG_length (s:ByteArray):∀ (f:Nat)(i:Int)(out ts:List Tk),0≤i→i≤s.size→lexG s f i out=(none,ts)→(ts.length:Int)≤out.length+(s.size-i):=by
 intro f
 induction f with
 | zero=>intro i out ts h0 h2 h; cases h; omega
 | succ f ih =>
  intro i out ts h0 h2 h
  rw [lexG] at h
  by_cases hi:i<s.size
  · rw [if_pos hi] at h
    have hr:=rest_size s i h0 h2
    by_cases hb:blankN (byteAt s i.toNat)=true
    · rw [if_pos hb] at h
      have:=ih (i+1) out ts (by omega) (by omega) h
      omega
    · rw [if_neg hb] at h
      have h:(if (oneS (restS s i)).1=0 then (some i,[]) else lexG s f (i+(oneS (restS s i)).2) (out++[tokAt s i]))=(none,ts):=h
      by_cases ho:(oneS (restS s i)).1=0
      · rw [if_pos ho] at h; cases h
      · rw [if_neg ho] at h
        have k3:=one_le (restS s i) (by omega) ho
        have:=ih _ _ ts (by omega) (by omega) h
        rw [List.length_append,List.length_singleton] at this
        omega
  · rw [if_neg hi] at h; cases h; omega
set_option maxRecDepth 100000 in
theorem lexAdd {s:ByteArray}{q:Ex × Back}(h:BLex (lexArgs s [] 0) (lexHeap []) q):(X3.addLp fLex 0 (lpLex (fun i ys=>i=0∧ys=[]) s q)).Sound :=
 X3_ok.addLp (fnOk fLex (by kernel_rfl)) (show (fn fLex).body=some (code fLex) by kernel_rfl) (by kernel_rfl)
  (Spl.ok (l:=[lexSpl (fun i ys=>i=0∧ys=[]) s q]) rfl (show ([0,4,5]:List Nat).Nodup by decide) fun s' hs' i hi=>by
   obtain rfl:=List.mem_singleton.1 hs'
   obtain ⟨h1,h2⟩:=hi
   show BLex (lexArgs s i.2 i.1) (lexHeap i.2) q
   rw [h1,h2]; exact h)
abbrev FLex (s:ByteArray)(x:AV):Prop:=F fLex [s0 s] x
attribute [local irreducible] runF in
set_option maxRecDepth 100000 in
theorem lexFn {s:ByteArray}{q:Ex × Back}{os:Orc}{x:AV}(h:BLex (lexArgs s [] 0) (lexHeap []) q)(hg:gLex os s q x):FLex s x :=
 fn_ok (X:=(X3.addLp fLex 0 (lpLex (fun i ys=>i=0∧ys=[]) s q)).ask [fLex]) (d:=10) ((lexAdd h).ask _) (f:=fLex) (fn:=fn fLex) (code:=code fLex) (fnOk fLex (by kernel_rfl)) (show (fn fLex).body=some (code fLex) by kernel_rfl) (by kernel_rfl) hg
def gLong (os:Orc)(s:ByteArray):Prop:=runF (X3.ask [fLex]) 10 fLex (fn fLex) (code fLex) os 1 [] [s0 s] .nil ⟨.tup [.lst false 3 [], .iface tErrno (i0 5)], .nil,[]⟩
end
end Go.Proofs.YtpofhijgccocpaaGreatDoor
end
section
namespace Go.Proofs.YtpofhijgccocpaaGreatDoor
open Go Go.AS Go.TP
theorem gLong_vc (s:ByteArray):gLong (Orc.t Orc.z) s=(decide ((↑(ByteArray.size s):Int)>(600:Int))=true∧Wk (AV.tup [AV.lit (Value.slice none 0 0),AV.iface 26 (i0 (5:Int))]) (AV.tup [AV.lst false 3 [],AV.iface 26 (i0 (5:Int))])∧SameH (hpL []) (hpL [])):=by kernel_rfl
end Go.Proofs.YtpofhijgccocpaaGreatDoor
end
section
namespace Go.Proofs.YtpofhijgccocpaaGreatDoor
open Go.AS Go.TP
noncomputable section
theorem gLong_ok (s:ByteArray)(h:600<s.size):gLong (Orc.t Orc.z) s:=by
 rw [gLong_vc]; exact ⟨decide_eq_true (by omega), .tup (.cons .nilS (.refl _)), .rfl⟩
attribute [local irreducible] runF in
set_option maxRecDepth 100000 in
theorem lex_ok (s:ByteArray):FLex s (encLex (lexS s)):=by
 unfold lexS
 by_cases h:600<s.size
 · rw [if_pos h]
   exact fn_ok (X:=X3.ask [fLex]) (d:=10) (X3_ok.ask _) (f:=fLex) (fn:=fn fLex) (code:=code fLex) (fnOk fLex (by kernel_rfl)) (show (fn fLex).body=some (code fLex) by kernel_rfl) (by kernel_rfl) (gLong_ok s h)
 · rw [if_neg h]
   have hs:s.size≤600:=by omega
   obtain ⟨q,hq,hB⟩:=lexL s hs s.size 0 [] (Int.le_refl _) (by omega) (by show (0:Int)+_≤_; omega) (by omega)
   have hlen:=lexG_length s s.size 0 []
   generalize lexG s s.size 0 []=R at hq hlen
   obtain ⟨_ | j,ts⟩:=R
   · have hl:=hlen ts (Int.le_refl _) (by omega) rfl
     have hz:(ts.map encT).length≤600:=by rw [List.length_map]; have:((([]:List Tk).length:Nat):Int)=0:=rfl; omega
     show FLex s (.tup [.lst false 3 ((ts++[(⟨11,s.size,ByteArray.empty⟩:Tk)]).map encT), .lit .nilIface])
     rw [List.map_append]
     obtain ⟨c,hc,rfl⟩:=hq
     rcases hc with rfl | rfl
     · exact lexFn hB (gLexA_ok s _ hs hz)
     · exact lexFn hB (gLexB_ok s _ hs hz)
   · obtain ⟨c,ys,hc,rfl⟩:=hq
     rcases hc with rfl | rfl
     · exact lexFn hB (gLexC_ok s _ _ hs)
     · exact lexFn hB (gLexD_ok s _ _ hs)
end
end Go.Proofs.YtpofhijgccocpaaGreatDoor
end
section
namespace Go.Proofs
open Go.Shelf
open Go.RowKit Go.Sort Go.Lib in
def Tryz.laysC172_ren:Go.Shelf.Ren:=⟨fun | 172=>168 | 244=>169 | 245=>170 | 247=>171 | 279=>172 | 280=>173 | 281=>174 | 282=>175 | 287=>176 | 316=>177 | 171=>111 | 205=>178 | 321=>179 | 322=>180 | 243=>128 | 246=>140 | 283=>149 | 284=>150 | 285=>151 | 286=>152 | 129=>159 | 317=>158 | 318=>160 | 319=>161 | 320=>162 | 337=>166 | 338=>167 | n=>n,fun | 9=>9 | 3=>3 | 75=>47 | 76=>204 | 4=>4 | 5=>5 | 167=>208 | 37=>130 | 0=>0 | 85=>209 | 2=>2 | 168=>211 | 53=>190 | 175=>214 | 46=>200 | 210=>217 | 127=>220 | 145=>223 | 143=>221 | 21=>21 | 171=>189 | 173=>193 | 212=>197 | 51=>198 | 20=>20 | 213=>199 | 232=>158 | 233=>206 | 80=>95 | n=>n,fun | 15=>5 | 16=>6 | 17=>2 | 18=>3 | 19=>4 | n=>n⟩
theorem Tryz.laysC172:Go.Proofs.LaysC.n172 Tryz.prog Tryz.laysC172_ren:={
 mixed:=by kernel_rfl
 f129:=Tryz.func159.trans (congrArg some (by kernel_rfl))
 f171:=Tryz.func111.trans (congrArg some (by kernel_rfl))
 f172:=Tryz.func168.trans (congrArg some (by kernel_rfl))
 f205:=Tryz.func178.trans (congrArg some (by kernel_rfl))
 f243:=Tryz.func128.trans (congrArg some (by kernel_rfl))
 f244:=Tryz.func169.trans (congrArg some (by kernel_rfl))
 f245:=Tryz.func170.trans (congrArg some (by kernel_rfl))
 f246:=Tryz.func140.trans (congrArg some (by kernel_rfl))
 f247:=Tryz.func171.trans (congrArg some (by kernel_rfl))
 f279:=Tryz.func172.trans (congrArg some (by kernel_rfl))
 f280:=Tryz.func173.trans (congrArg some (by kernel_rfl))
 f281:=Tryz.func174.trans (congrArg some (by kernel_rfl))
 f282:=Tryz.func175.trans (congrArg some (by kernel_rfl))
 f283:=Tryz.func149.trans (congrArg some (by kernel_rfl))
 f284:=Tryz.func150.trans (congrArg some (by kernel_rfl))
 f285:=Tryz.func151.trans (congrArg some (by kernel_rfl))
 f286:=Tryz.func152.trans (congrArg some (by kernel_rfl))
 f287:=Tryz.func176.trans (congrArg some (by kernel_rfl))
 f316:=Tryz.func177.trans (congrArg some (by kernel_rfl))
 f317:=Tryz.func158.trans (congrArg some (by kernel_rfl))
 f318:=Tryz.func160.trans (congrArg some (by kernel_rfl))
 f319:=Tryz.func161.trans (congrArg some (by kernel_rfl))
 f320:=Tryz.func162.trans (congrArg some (by kernel_rfl))
 f321:=Tryz.func179.trans (congrArg some (by kernel_rfl))
 f322:=Tryz.func180.trans (congrArg some (by kernel_rfl))
 f337:=Tryz.func166.trans (congrArg some (by kernel_rfl))
 f338:=Tryz.func167.trans (congrArg some (by kernel_rfl))
 t0:=Tryz.underlying0
 a0:=Tryz.isAgg0
 z0:=Tryz.sizeOf0
 v0:=Tryz.zeroValue0
 t2:=Tryz.underlying2
 a2:=Tryz.isAgg2
 z2:=Tryz.sizeOf2
 v2:=Tryz.zeroValue2
 t3:=Tryz.underlying3
 a3:=Tryz.isAgg3
 z3:=Tryz.sizeOf3
 v3:=Tryz.zeroValue3
 t4:=Tryz.underlying4
 a4:=Tryz.isAgg4
 z4:=Tryz.sizeOf4
 v4:=Tryz.zeroValue4
 t5:=Tryz.underlying5
 a5:=Tryz.isAgg5
 z5:=Tryz.sizeOf5
 v5:=Tryz.zeroValue5
 t9:=Tryz.underlying9
 a9:=Tryz.isAgg9
 z9:=Tryz.sizeOf9
 v9:=Tryz.zeroValue9
 t20:=Tryz.underlying20
 a20:=Tryz.isAgg20
 z20:=Tryz.sizeOf20
 v20:=Tryz.zeroValue20
 t21:=Tryz.underlying21
 a21:=Tryz.isAgg21
 z21:=Tryz.sizeOf21
 v21:=Tryz.zeroValue21
 t37:=Tryz.underlying130
 a37:=Tryz.isAgg130
 z37:=Tryz.sizeOf130
 v37:=Tryz.zeroValue130
 t46:=Tryz.underlying200
 a46:=Tryz.isAgg200
 z46:=Tryz.sizeOf200
 v46:=Tryz.zeroValue200
 t51:=Tryz.underlying198
 a51:=Tryz.isAgg198
 z51:=Tryz.sizeOf198
 v51:=Tryz.zeroValue198
 t53:=Tryz.underlying190
 a53:=Tryz.isAgg190
 z53:=Tryz.sizeOf190
 v53:=Tryz.zeroValue190
 t75:=Tryz.underlying47
 a75:=Tryz.isAgg47
 z75:=Tryz.sizeOf47
 v75:=Tryz.zeroValue47
 t76:=Tryz.underlying204
 a76:=Tryz.isAgg204
 z76:=Tryz.sizeOf204
 v76:=Tryz.zeroValue204
 t85:=Tryz.underlying209
 a85:=Tryz.isAgg209
 z85:=Tryz.sizeOf209
 v85:=Tryz.zeroValue209
 t127:=Tryz.underlying220
 a127:=Tryz.isAgg220
 z127:=Tryz.sizeOf220
 v127:=Tryz.zeroValue220
 t143:=Tryz.underlying221
 a143:=Tryz.isAgg221
 z143:=Tryz.sizeOf221
 v143:=Tryz.zeroValue221
 t145:=Tryz.underlying223
 a145:=Tryz.isAgg223
 z145:=Tryz.sizeOf223
 v145:=Tryz.zeroValue223
 t167:=Tryz.underlying208
 a167:=Tryz.isAgg208
 z167:=Tryz.sizeOf208
 v167:=Tryz.zeroValue208
 t168:=Tryz.underlying211
 a168:=Tryz.isAgg211
 z168:=Tryz.sizeOf211
 v168:=Tryz.zeroValue211
 t171:=Tryz.underlying189
 a171:=Tryz.isAgg189
 z171:=Tryz.sizeOf189
 v171:=Tryz.zeroValue189
 t173:=Tryz.underlying193
 a173:=Tryz.isAgg193
 z173:=Tryz.sizeOf193
 v173:=Tryz.zeroValue193
 t175:=Tryz.underlying214
 a175:=Tryz.isAgg214
 z175:=Tryz.sizeOf214
 v175:=Tryz.zeroValue214
 t210:=Tryz.underlying217
 a210:=Tryz.isAgg217
 z210:=Tryz.sizeOf217
 v210:=Tryz.zeroValue217
 t212:=Tryz.underlying197
 a212:=Tryz.isAgg197
 z212:=Tryz.sizeOf197
 v212:=Tryz.zeroValue197
 t213:=Tryz.underlying199
 a213:=Tryz.isAgg199
 z213:=Tryz.sizeOf199
 t232:=Tryz.underlying158
 a232:=Tryz.isAgg158
 z232:=Tryz.sizeOf158
 v232:=Tryz.zeroValue158
 t233:=Tryz.underlying206
 a233:=Tryz.isAgg206
 z233:=Tryz.sizeOf206
 v233:=Tryz.zeroValue206
 g15:=by kernel_rfl
 g16:=by kernel_rfl
 g17:=by kernel_rfl
 g18:=by kernel_rfl
 g19:=by kernel_rfl
 t80:=Tryz.underlying95
 a80:=Tryz.isAgg95
 z80:=Tryz.sizeOf95
 v80:=Tryz.zeroValue95
 i0:=by kernel_rfl
 i2:=by kernel_rfl
 i3:=by kernel_rfl
 i4:=by kernel_rfl
 i5:=by kernel_rfl
 i9:=by kernel_rfl
 i20:=by kernel_rfl
 i21:=by kernel_rfl
 i37:=by kernel_rfl
 i46:=by kernel_rfl
 i51:=by kernel_rfl
 i53:=by kernel_rfl
 i75:=by kernel_rfl
 i76:=by kernel_rfl
 i80:=by kernel_rfl
 i85:=by kernel_rfl
 i127:=by kernel_rfl
 i143:=by kernel_rfl
 i145:=by kernel_rfl
 i167:=by kernel_rfl
 i168:=by kernel_rfl
 i171:=by kernel_rfl
 i173:=by kernel_rfl
 i175:=by kernel_rfl
 i210:=by kernel_rfl
 i212:=by kernel_rfl
 i232:=by kernel_rfl
 i233:=by kernel_rfl
 m15:=by kernel_rfl
 m16:=by kernel_rfl
 m17:=by kernel_rfl
 m18:=by kernel_rfl
 m19:=by kernel_rfl
 c0:=by kernel_rfl
 c2:=by kernel_rfl
 c3:=by kernel_rfl
 c4:=by kernel_rfl
 c5:=by kernel_rfl
 c9:=by kernel_rfl
 c20:=by kernel_rfl
 c21:=by kernel_rfl
 c37:=by kernel_rfl
 c46:=by kernel_rfl
 c51:=by kernel_rfl
 c53:=by kernel_rfl
 c75:=by kernel_rfl
 c76:=by kernel_rfl
 c80:=by kernel_rfl
 c85:=by kernel_rfl
 c127:=by kernel_rfl
 c143:=by kernel_rfl
 c145:=by kernel_rfl
 c167:=by kernel_rfl
 c168:=by kernel_rfl
 c171:=by kernel_rfl
 c173:=by kernel_rfl
 c175:=by kernel_rfl
 c210:=by kernel_rfl
 c212:=by kernel_rfl
 c213:=by kernel_rfl
 c232:=by kernel_rfl
 c233:=by kernel_rfl }
open Go.RowKit in
theorem Tryz.strconv_Atoi_ok (s:ByteArray)(hmax:s.size≤9223372036854775806)(v:Int)(h:Lib.atoiAll s.data.toList = .ok v)(w:World) :
  Calls Tryz.prog 168 #[.string s] w fun e w'=>e = .returned (.tuple #[.int .i64 v, .nilIface])∧(w'=w∨∃ t,w'=Lib.bytesWorld w 5 t):=Any.strconv_Atoi_ok Tryz.laysC172 s hmax v h w
open Go.RowKit in
theorem Tryz.strconv_Atoi_syntax (s:ByteArray)(hlim:s.size≤281474976710656)(h:Lib.atoiAll s.data.toList=Lib.atoiAll [])(ev:Value)(w:World)(hv:w.cell? ⟨5,0,none⟩=some ev)(hev:ev = .nilIface∨∃ te pe,ev = .iface te pe) :
  Calls Tryz.prog 168 #[.string s] w fun e w'=>∃ N,e = .returned (.tuple #[.int .i64 (0), .iface 211 (.pointer (some ⟨N,0,none⟩))])∧w.heap.size≤N∧w'.heap[N]?=some (.cells #[.string ⟨#[65,116,111,105]⟩, .string s,ev] 217 (0,0))∧Below w.heap.size w w':=Any.strconv_Atoi_syntax Tryz.laysC172 s hlim (h.trans rfl) ev w hv hev
open Go.RowKit in
theorem Tryz.strconv_Atoi_range (s:ByteArray)(hlim:s.size≤281474976710656)(h:Lib.atoiAll s.data.toList = .range)(ev:Value)(w:World)(hv:w.cell? ⟨6,0,none⟩=some ev)(hev:ev = .nilIface∨∃ te pe,ev = .iface te pe) :
  Calls Tryz.prog 168 #[.string s] w fun e w'=>∃ N,e = .returned (.tuple #[.int .i64 (Lib.atoiSat s.data.toList), .iface 211 (.pointer (some ⟨N,0,none⟩))])∧w.heap.size≤N∧w'.heap[N]?=some (.cells #[.string ⟨#[65,116,111,105]⟩, .string s,ev] 217 (0,0))∧Below w.heap.size w w':=Any.strconv_Atoi_range Tryz.laysC172 s hlim h ev w hv hev
end Go.Proofs
end
section
namespace Go.Proofs.YtpofhijgccocpaaGreatDoor
open Go.AS Go.TP
noncomputable section
def bytesV (s:ByteArray):AV := .lst false 1 (s.data.toList.map byteA)
def numArgs (k a:Int)(x:ByteArray)(i:Int):List AV:=[.ref (.agg [i0 k,i0 a,s0 x]),bytesV x,i0 x.size,i0 i]
def numEnd (k a:Int)(x:ByteArray):Ex × Back:=(.exit 0,⟨.tup [.ref (.agg [i0 k,i0 a,s0 x])], .nil,[]⟩)
def numBad:Ex × Back:=(.ret,⟨.tup [i0 0,b0 false], .nil,[]⟩)
def numOuts:Ex→List Nat
 | .ret=>[2,3]
 | _=>[1]
abbrev lpNum (P:Prop)(k a:Int)(x:ByteArray)(i:Int)(r:Ex × Back):Lp:=Lp1 [1,10,11,12] [] numOuts P (numArgs k a x i) .nil r
noncomputable def XN:WX:=(X1.ask [fNumber]).askAt fNumber [14,15]
def rNum (os:Orc)(P:Prop)(k a:Int)(x:ByteArray)(i:Int)(r r':Ex × Back):Prop :=
 runL XN 8 fNumber (fn fNumber).ntmps (loopAt (code fNumber) 0) (lpNum P k a x (i+1) r') (lpNum P k a x (i+1) r') os 0 [] (numArgs k a x i) .nil r
def rNumE (os:Orc)(P:Prop)(k a:Int)(x:ByteArray)(i:Int):Prop:=rNum os P k a x i (numEnd k a x) (numEnd k a x)
def rNumX (os:Orc)(P:Prop)(k a:Int)(x:ByteArray)(i:Int):Prop:=rNum os P k a x i numBad numBad
def rNumA (os:Orc)(P:Prop)(k a:Int)(x:ByteArray)(i:Int):Prop:=rNum os P k a x i (numEnd k a x) (numEnd k a x)
def rNumB (os:Orc)(P:Prop)(k a:Int)(x:ByteArray)(i:Int):Prop:=rNum os P k a x i numBad numBad
def spAtoi (s:ByteArray)(n:Int)(e:AV):Sp := .pure Unit (fun _=>True) (fun _=>[s0 s]) (fun _ => .tup [i0 n,e])
def gNumber (os:Orc)(k a:Int)(x:ByteArray)(q:Ex × Back)(n:Int)(e:AV)(m:Int)(b:Bool):Prop :=
 runF (((X1.add fAtoi (Sp.con [spAtoi x n e])).addLp fNumber 0 (lpNum True k a x 0 q)).ask [fNumber]) 10 fNumber (fn fNumber) (code fNumber) os 0 [] [.agg [i0 k,i0 a,s0 x]] .nil ⟨.tup [i0 m,b0 b], .nil,[]⟩
def gNumX (os:Orc)(k a:Int)(x:ByteArray)(n:Int)(e:AV):Prop:=gNumber os k a x numBad n e 0 false
def gNumOk (os:Orc)(a:Int)(x:ByteArray)(n:Int):Prop:=gNumber os 1 a x (numEnd 1 a x) n (.lit .nilIface) n true
def gNumNil (os:Orc)(k a:Int)(x:ByteArray)(n:Int):Prop:=gNumber os k a x (numEnd k a x) n (.lit .nilIface) n false
def gNumErr (os:Orc)(k a:Int)(x:ByteArray)(n:Int)(t:Nat)(u:AV):Prop:=gNumber os k a x (numEnd k a x) n (.iface t (.ref u)) n false
def preArgs (x:ByteArray)(i:Int):List AV:=[s0 x,bytesV x,i0 x.size,i0 i]
def preEnd (x:ByteArray):Ex × Back:=(.exit 0,⟨.tup [s0 x], .nil,[]⟩)
def preBad:Ex × Back:=(.ret,⟨.tup [b0 false], .nil,[]⟩)
def preOuts:Ex→List Nat
 | .ret=>[2]
 | _=>[0]
abbrev lpPre (P:Prop)(x:ByteArray)(i:Int)(r:Ex × Back):Lp:=Lp1 [0,6,7,8] [] preOuts P (preArgs x i) .nil r
noncomputable def XP:WX:=(X1.ask [fIsPrefix]).askAt fIsPrefix [10,11]
def rPre (os:Orc)(P:Prop)(x:ByteArray)(i:Int)(r r':Ex × Back):Prop :=
 runL XP 8 fIsPrefix (fn fIsPrefix).ntmps (loopAt (code fIsPrefix) 0) (lpPre P x (i+1) r') (lpPre P x (i+1) r') os 0 [] (preArgs x i) .nil r
def rPreE (os:Orc)(P:Prop)(x:ByteArray)(i:Int):Prop:=rPre os P x i (preEnd x) (preEnd x)
def rPreX (os:Orc)(P:Prop)(x:ByteArray)(i:Int):Prop:=rPre os P x i preBad preBad
def rPreA (os:Orc)(P:Prop)(x:ByteArray)(i:Int):Prop:=rPre os P x i (preEnd x) (preEnd x)
def rPreB (os:Orc)(P:Prop)(x:ByteArray)(i:Int):Prop:=rPre os P x i preBad preBad
def gPre (os:Orc)(x:ByteArray)(q:Ex × Back)(b:Bool):Prop :=
 runF ((X1.addLp fIsPrefix 0 (lpPre True x 0 q)).ask [fIsPrefix]) 10 fIsPrefix (fn fIsPrefix) (code fIsPrefix) os 0 [] [s0 x] .nil ⟨b0 b, .nil,[]⟩
def gPreX (os:Orc)(x:ByteArray):Prop:=gPre os x preBad false
def gPreE (os:Orc)(x:ByteArray)(b:Bool):Prop:=gPre os x (preEnd x) b
end
end Go.Proofs.YtpofhijgccocpaaGreatDoor
end
section
namespace Go.Proofs.YtpofhijgccocpaaGreatDoor
open Go Go.AS Go.TP
theorem rNumE_vc (P:Prop)(k a:Int)(x:ByteArray)(i:Int):rNumE (Orc.f Orc.z) P k a x i=(let z1:=(AV.tup [AV.ref (AV.agg [i0 k,i0 a,s0 x])]); decide (i<(↑(ByteArray.size x):Int))=false∧Ex.exit 0=Ex.exit 0∧Wk z1 z1∧SameH (hpL []) (hpL [])):=by kernel_rfl
def orNumX:Orc:=Orc.t (Orc.s (Orc.t (Orc.t Orc.z)) (Orc.f (Orc.t Orc.z)))
theorem rNumX_vc (P:Prop)(k a:Int)(x:ByteArray)(i:Int):rNumX orNumX P k a x i=(decide (i<(↑(ByteArray.size x):Int))=true∧(decide ((0:Int)≤i∧i<(↑(List.length (List.map byteA (Array.toList (ByteArray.data x)))):Int))&&(true&&(isShp (Cx.B (cxV XN 8 fNumber)) shN 5 (List.getD (List.map byteA (Array.toList (ByteArray.data x))) (Int.toNat i) (AV.lit (Value.tuple { toList:=[] })))&&(false||true))))=true∧(decide (intA (List.getD (List.map byteA (Array.toList (ByteArray.data x))) (Int.toNat i) (AV.lit (Value.tuple { toList:=[] })))<(48:Int))=true→true=true∧true=true∧Ex.ret=Ex.ret∧Wk (AV.tup [AV.lit (Value.int IntKind.i64 (0:Int)),AV.lit (Value.bool false)]) (AV.tup [AV.lit (Value.int IntKind.i64 (0:Int)),AV.lit (Value.bool false)])∧SameH (hpL []) (hpL []))∧(decide (intA (List.getD (List.map byteA (Array.toList (ByteArray.data x))) (Int.toNat i) (AV.lit (Value.tuple { toList:=[] })))<(48:Int))=false→false=false∧decide (intA (List.getD (List.map byteA (Array.toList (ByteArray.data x))) (Int.toNat i) (AV.lit (Value.tuple { toList:=[] })))>(57:Int))=true∧Ex.ret=Ex.ret∧Wk (AV.tup [AV.lit (Value.int IntKind.i64 (0:Int)),AV.lit (Value.bool false)]) (AV.tup [AV.lit (Value.int IntKind.i64 (0:Int)),AV.lit (Value.bool false)])∧SameH (hpL []) (hpL []))):=by kernel_rfl
def orNumA:Orc:=Orc.t (Orc.f (Orc.f (Orc.f Orc.z)))
theorem rNumA_vc (P:Prop)(k a:Int)(x:ByteArray)(i:Int):rNumA orNumA P k a x i=(decide (i<(↑(ByteArray.size x):Int))=true∧(decide ((0:Int)≤i∧i<(↑(List.length (List.map byteA (Array.toList (ByteArray.data x)))):Int))&&(true&&(isShp (Cx.B (cxV XN 8 fNumber)) shN 5 (List.getD (List.map byteA (Array.toList (ByteArray.data x))) (Int.toNat i) (AV.lit (Value.tuple { toList:=[] })))&&(false||true))))=true∧decide (intA (List.getD (List.map byteA (Array.toList (ByteArray.data x))) (Int.toNat i) (AV.lit (Value.tuple { toList:=[] })))<(48:Int))=false∧false=false∧decide (intA (List.getD (List.map byteA (Array.toList (ByteArray.data x))) (Int.toNat i) (AV.lit (Value.tuple { toList:=[] })))>(57:Int))=false∧inR IntKind.i64 (i+(1:Int))=true∧∃ (_:Unit),(P∧Wks [AV.ref (AV.agg [AV.lit (Value.int IntKind.i64 k),AV.lit (Value.int IntKind.i64 a),AV.lit (Value.string x)]),AV.lst false 1 (List.map byteA (Array.toList (ByteArray.data x))),AV.lit (Value.int IntKind.i64 (↑(ByteArray.size x):Int)),AV.lit (Value.int IntKind.i64 (i+(1:Int)))] [AV.ref (AV.agg [AV.lit (Value.int IntKind.i64 k),AV.lit (Value.int IntKind.i64 a),AV.lit (Value.string x)]),AV.lst false 1 (List.map byteA (Array.toList (ByteArray.data x))),AV.lit (Value.int IntKind.i64 (↑(ByteArray.size x):Int)),AV.lit (Value.int IntKind.i64 (i+(1:Int)))]∧hpL []=hpL [])∧Ex.exit 0=Ex.exit 0∧Wk (AV.tup [AV.ref (AV.agg [AV.lit (Value.int IntKind.i64 k),AV.lit (Value.int IntKind.i64 a),AV.lit (Value.string x)])]) (AV.tup [AV.ref (AV.agg [AV.lit (Value.int IntKind.i64 k),AV.lit (Value.int IntKind.i64 a),AV.lit (Value.string x)])])∧SameH (hpL []) (hpL [])):=by kernel_rfl
def orNumB:Orc:=Orc.t (Orc.f (Orc.f (Orc.f Orc.z)))
theorem rNumB_vc (P:Prop)(k a:Int)(x:ByteArray)(i:Int):rNumB orNumB P k a x i=(decide (i<(↑(ByteArray.size x):Int))=true∧(decide ((0:Int)≤i∧i<(↑(List.length (List.map byteA (Array.toList (ByteArray.data x)))):Int))&&(true&&(isShp (Cx.B (cxV XN 8 fNumber)) shN 5 (List.getD (List.map byteA (Array.toList (ByteArray.data x))) (Int.toNat i) (AV.lit (Value.tuple { toList:=[] })))&&(false||true))))=true∧decide (intA (List.getD (List.map byteA (Array.toList (ByteArray.data x))) (Int.toNat i) (AV.lit (Value.tuple { toList:=[] })))<(48:Int))=false∧false=false∧decide (intA (List.getD (List.map byteA (Array.toList (ByteArray.data x))) (Int.toNat i) (AV.lit (Value.tuple { toList:=[] })))>(57:Int))=false∧inR IntKind.i64 (i+(1:Int))=true∧∃ (_:Unit),(P∧Wks [AV.ref (AV.agg [AV.lit (Value.int IntKind.i64 k),AV.lit (Value.int IntKind.i64 a),AV.lit (Value.string x)]),AV.lst false 1 (List.map byteA (Array.toList (ByteArray.data x))),AV.lit (Value.int IntKind.i64 (↑(ByteArray.size x):Int)),AV.lit (Value.int IntKind.i64 (i+(1:Int)))] [AV.ref (AV.agg [AV.lit (Value.int IntKind.i64 k),AV.lit (Value.int IntKind.i64 a),AV.lit (Value.string x)]),AV.lst false 1 (List.map byteA (Array.toList (ByteArray.data x))),AV.lit (Value.int IntKind.i64 (↑(ByteArray.size x):Int)),AV.lit (Value.int IntKind.i64 (i+(1:Int)))]∧hpL []=hpL [])∧Ex.ret=Ex.ret∧Wk (AV.tup [AV.lit (Value.int IntKind.i64 (0:Int)),AV.lit (Value.bool false)]) (AV.tup [AV.lit (Value.int IntKind.i64 (0:Int)),AV.lit (Value.bool false)])∧SameH (hpL []) (hpL [])):=by kernel_rfl
theorem gNumX_vc (k a:Int)(x:ByteArray)(n:Int)(e:AV):gNumX (Orc.z) k a x n e=(true=true∧∃ (_:Unit),(True∧Wks [AV.ref (AV.agg [AV.lit (Value.int IntKind.i64 k),AV.lit (Value.int IntKind.i64 a),AV.lit (Value.string x)]),AV.lst false 1 (List.map byteA (Array.toList (ByteArray.data x))),AV.lit (Value.int IntKind.i64 (↑(List.length (List.map byteA (Array.toList (ByteArray.data x)))):Int)),AV.lit (Value.int IntKind.i64 (0:Int))] [AV.ref (AV.agg [AV.lit (Value.int IntKind.i64 k),AV.lit (Value.int IntKind.i64 a),AV.lit (Value.string x)]),AV.lst false 1 (List.map byteA (Array.toList (ByteArray.data x))),AV.lit (Value.int IntKind.i64 (↑(ByteArray.size x):Int)),AV.lit (Value.int IntKind.i64 (0:Int))]∧hpL []=hpL [])∧Wk (AV.tup [AV.lit (Value.int IntKind.i64 (0:Int)),AV.lit (Value.bool false)]) (AV.tup [AV.lit (Value.int IntKind.i64 (0:Int)),AV.lit (Value.bool false)])∧SameH (hpL []) (hpL [])):=by kernel_rfl
def ogNumOk:Orc:=HT (Orc.t (Orc.t Orc.z))
theorem gNumOk_vc (a:Int)(x:ByteArray)(n:Int):gNumOk ogNumOk a x n=(true=true∧∃ (_:Unit),(True∧Wks [AV.ref (AV.agg [AV.lit (Value.int IntKind.i64 (1:Int)),AV.lit (Value.int IntKind.i64 a),AV.lit (Value.string x)]),AV.lst false 1 (List.map byteA (Array.toList (ByteArray.data x))),AV.lit (Value.int IntKind.i64 (↑(List.length (List.map byteA (Array.toList (ByteArray.data x)))):Int)),AV.lit (Value.int IntKind.i64 (0:Int))] [AV.ref (AV.agg [AV.lit (Value.int IntKind.i64 (1:Int)),AV.lit (Value.int IntKind.i64 a),AV.lit (Value.string x)]),AV.lst false 1 (List.map byteA (Array.toList (ByteArray.data x))),AV.lit (Value.int IntKind.i64 (↑(ByteArray.size x):Int)),AV.lit (Value.int IntKind.i64 (0:Int))]∧hpL []=hpL [])∧∃ (_:Unit),(True∧Wks [AV.lit (Value.string x)] [AV.lit (Value.string x)]∧hpL []=hpL [])∧true=true∧true=true∧true=true∧true=true∧decide ((↑(ByteArray.size x):Int)≤(6:Int))=true∧true=true∧Wk (AV.tup [AV.lit (Value.int IntKind.i64 n),AV.lit (Value.bool true)]) (AV.tup [AV.lit (Value.int IntKind.i64 n),AV.lit (Value.bool true)])∧SameH (hpL []) (hpL [])):=by kernel_rfl
def ogNumNil:Orc:=Orc.s (Orc.t (Orc.t (Orc.t (Orc.s (Orc.t Orc.z) (Orc.f Orc.z))))) (HF (Orc.f Orc.z))
theorem gNumNil_vc (k a:Int)(x:ByteArray)(n:Int):gNumNil ogNumNil k a x n=(true=true∧∃ (_:Unit),(True∧Wks [AV.ref (AV.agg [AV.lit (Value.int IntKind.i64 k),AV.lit (Value.int IntKind.i64 a),AV.lit (Value.string x)]),AV.lst false 1 (List.map byteA (Array.toList (ByteArray.data x))),AV.lit (Value.int IntKind.i64 (↑(List.length (List.map byteA (Array.toList (ByteArray.data x)))):Int)),AV.lit (Value.int IntKind.i64 (0:Int))] [AV.ref (AV.agg [AV.lit (Value.int IntKind.i64 k),AV.lit (Value.int IntKind.i64 a),AV.lit (Value.string x)]),AV.lst false 1 (List.map byteA (Array.toList (ByteArray.data x))),AV.lit (Value.int IntKind.i64 (↑(ByteArray.size x):Int)),AV.lit (Value.int IntKind.i64 (0:Int))]∧hpL []=hpL [])∧∃ (_:Unit),(True∧Wks [AV.lit (Value.string x)] [AV.lit (Value.string x)]∧hpL []=hpL [])∧((k==(1:Int))=true→true=true∧true=true∧true=true∧(decide ((↑(ByteArray.size x):Int)≤(6:Int))=true→true=true∧Wk (AV.tup [AV.lit (Value.int IntKind.i64 n),AV.lit (Value.bool true)]) (AV.tup [AV.lit (Value.int IntKind.i64 n),AV.lit (Value.bool false)])∧SameH (hpL []) (hpL []))∧(decide ((↑(ByteArray.size x):Int)≤(6:Int))=false→false=false∧Wk (AV.tup [AV.lit (Value.int IntKind.i64 n),AV.lit (Value.bool false)]) (AV.tup [AV.lit (Value.int IntKind.i64 n),AV.lit (Value.bool false)])∧SameH (hpL []) (hpL [])))∧((k==(1:Int))=false→false=false∧false=false∧false=false∧false=false∧false=false∧Wk (AV.tup [AV.lit (Value.int IntKind.i64 n),AV.lit (Value.bool false)]) (AV.tup [AV.lit (Value.int IntKind.i64 n),AV.lit (Value.bool false)])∧SameH (hpL []) (hpL []))):=by kernel_rfl
def ogNumErr:Orc:=Orc.s (Orc.t (Orc.t (Orc.t (Orc.s (Orc.t Orc.z) (Orc.f Orc.z))))) (HF (Orc.f Orc.z))
theorem gNumErr_vc (k a:Int)(x:ByteArray)(n:Int)(t:Nat)(u:AV):gNumErr ogNumErr k a x n t u=(true=true∧∃ (_:Unit),(True∧Wks [AV.ref (AV.agg [AV.lit (Value.int IntKind.i64 k),AV.lit (Value.int IntKind.i64 a),AV.lit (Value.string x)]),AV.lst false 1 (List.map byteA (Array.toList (ByteArray.data x))),AV.lit (Value.int IntKind.i64 (↑(List.length (List.map byteA (Array.toList (ByteArray.data x)))):Int)),AV.lit (Value.int IntKind.i64 (0:Int))] [AV.ref (AV.agg [AV.lit (Value.int IntKind.i64 k),AV.lit (Value.int IntKind.i64 a),AV.lit (Value.string x)]),AV.lst false 1 (List.map byteA (Array.toList (ByteArray.data x))),AV.lit (Value.int IntKind.i64 (↑(ByteArray.size x):Int)),AV.lit (Value.int IntKind.i64 (0:Int))]∧hpL []=hpL [])∧∃ (_:Unit),(True∧Wks [AV.lit (Value.string x)] [AV.lit (Value.string x)]∧hpL []=hpL [])∧((k==(1:Int))=true→true=true∧true=true∧true=true∧(decide ((↑(ByteArray.size x):Int)≤(6:Int))=true→true=true∧Wk (AV.tup [AV.lit (Value.int IntKind.i64 n),AV.lit (Value.bool false)]) (AV.tup [AV.lit (Value.int IntKind.i64 n),AV.lit (Value.bool false)])∧SameH (hpL []) (hpL []))∧(decide ((↑(ByteArray.size x):Int)≤(6:Int))=false→false=false∧Wk (AV.tup [AV.lit (Value.int IntKind.i64 n),AV.lit (Value.bool false)]) (AV.tup [AV.lit (Value.int IntKind.i64 n),AV.lit (Value.bool false)])∧SameH (hpL []) (hpL [])))∧((k==(1:Int))=false→false=false∧false=false∧false=false∧false=false∧false=false∧Wk (AV.tup [AV.lit (Value.int IntKind.i64 n),AV.lit (Value.bool false)]) (AV.tup [AV.lit (Value.int IntKind.i64 n),AV.lit (Value.bool false)])∧SameH (hpL []) (hpL []))):=by kernel_rfl
theorem rPreE_vc (P:Prop)(x:ByteArray)(i:Int):rPreE (Orc.f Orc.z) P x i=(decide (i<(↑(ByteArray.size x):Int))=false∧Ex.exit 0=Ex.exit 0∧Wk (AV.tup [s0 x]) (AV.tup [s0 x])∧SameH (hpL []) (hpL [])):=by kernel_rfl
theorem rPreX_vc (P:Prop)(x:ByteArray)(i:Int):rPreX (Orc.t (Orc.t Orc.z)) P x i=(decide (i<(↑(ByteArray.size x):Int))=true∧(decide ((0:Int)≤i∧i<(↑(List.length (List.map byteA (Array.toList (ByteArray.data x)))):Int))&&(true&&(isShp (Cx.B (cxV XP 8 fIsPrefix)) shN 5 (List.getD (List.map byteA (Array.toList (ByteArray.data x))) (Int.toNat i) (AV.lit (Value.tuple { toList:=[] })))&&(false||true))))=true∧∃ (i1:Nat),(i1<256∧Wks [AV.lit (Value.int IntKind.u8 (intA (List.getD (List.map byteA (Array.toList (ByteArray.data x))) (Int.toNat i) (AV.lit (Value.tuple { toList:=[] })))))] [AV.lit (Value.int IntKind.u8 (↑i1:Int))]∧hpL []=hpL [])∧decide (digitI i1<(0:Int))=true∧Ex.ret=Ex.ret∧Wk (AV.tup [AV.lit (Value.bool false)]) (AV.tup [AV.lit (Value.bool false)])∧SameH (hpL []) (hpL [])):=by kernel_rfl
theorem rPreA_vc (P:Prop)(x:ByteArray)(i:Int):rPreA (Orc.t (Orc.f Orc.z)) P x i=(decide (i<(↑(ByteArray.size x):Int))=true∧(decide ((0:Int)≤i∧i<(↑(List.length (List.map byteA (Array.toList (ByteArray.data x)))):Int))&&(true&&(isShp (Cx.B (cxV XP 8 fIsPrefix)) shN 5 (List.getD (List.map byteA (Array.toList (ByteArray.data x))) (Int.toNat i) (AV.lit (Value.tuple { toList:=[] })))&&(false||true))))=true∧∃ (i1:Nat),(i1<256∧Wks [AV.lit (Value.int IntKind.u8 (intA (List.getD (List.map byteA (Array.toList (ByteArray.data x))) (Int.toNat i) (AV.lit (Value.tuple { toList:=[] })))))] [AV.lit (Value.int IntKind.u8 (↑i1:Int))]∧hpL []=hpL [])∧decide (digitI i1<(0:Int))=false∧inR IntKind.i64 (i+(1:Int))=true∧∃ (_:Unit),(P∧Wks [AV.lit (Value.string x),AV.lst false 1 (List.map byteA (Array.toList (ByteArray.data x))),AV.lit (Value.int IntKind.i64 (↑(ByteArray.size x):Int)),AV.lit (Value.int IntKind.i64 (i+(1:Int)))] [AV.lit (Value.string x),AV.lst false 1 (List.map byteA (Array.toList (ByteArray.data x))),AV.lit (Value.int IntKind.i64 (↑(ByteArray.size x):Int)),AV.lit (Value.int IntKind.i64 (i+(1:Int)))]∧hpL []=hpL [])∧Ex.exit 0=Ex.exit 0∧Wk (AV.tup [AV.lit (Value.string x)]) (AV.tup [AV.lit (Value.string x)])∧SameH (hpL []) (hpL [])):=by kernel_rfl
theorem rPreB_vc (P:Prop)(x:ByteArray)(i:Int):rPreB (Orc.t (Orc.f Orc.z)) P x i=(decide (i<(↑(ByteArray.size x):Int))=true∧(decide ((0:Int)≤i∧i<(↑(List.length (List.map byteA (Array.toList (ByteArray.data x)))):Int))&&(true&&(isShp (Cx.B (cxV XP 8 fIsPrefix)) shN 5 (List.getD (List.map byteA (Array.toList (ByteArray.data x))) (Int.toNat i) (AV.lit (Value.tuple { toList:=[] })))&&(false||true))))=true∧∃ (i1:Nat),(i1<256∧Wks [AV.lit (Value.int IntKind.u8 (intA (List.getD (List.map byteA (Array.toList (ByteArray.data x))) (Int.toNat i) (AV.lit (Value.tuple { toList:=[] })))))] [AV.lit (Value.int IntKind.u8 (↑i1:Int))]∧hpL []=hpL [])∧decide (digitI i1<(0:Int))=false∧inR IntKind.i64 (i+(1:Int))=true∧∃ (_:Unit),(P∧Wks [AV.lit (Value.string x),AV.lst false 1 (List.map byteA (Array.toList (ByteArray.data x))),AV.lit (Value.int IntKind.i64 (↑(ByteArray.size x):Int)),AV.lit (Value.int IntKind.i64 (i+(1:Int)))] [AV.lit (Value.string x),AV.lst false 1 (List.map byteA (Array.toList (ByteArray.data x))),AV.lit (Value.int IntKind.i64 (↑(ByteArray.size x):Int)),AV.lit (Value.int IntKind.i64 (i+(1:Int)))]∧hpL []=hpL [])∧Ex.ret=Ex.ret∧Wk (AV.tup [AV.lit (Value.bool false)]) (AV.tup [AV.lit (Value.bool false)])∧SameH (hpL []) (hpL [])):=by kernel_rfl
theorem gPreX_vc (x:ByteArray):gPreX (Orc.z) x=(true=true∧∃ (_:Unit),(True∧Wks [AV.lit (Value.string x),AV.lst false 1 (List.map byteA (Array.toList (ByteArray.data x))),AV.lit (Value.int IntKind.i64 (↑(List.length (List.map byteA (Array.toList (ByteArray.data x)))):Int)),AV.lit (Value.int IntKind.i64 (0:Int))] [AV.lit (Value.string x),AV.lst false 1 (List.map byteA (Array.toList (ByteArray.data x))),AV.lit (Value.int IntKind.i64 (↑(ByteArray.size x):Int)),AV.lit (Value.int IntKind.i64 (0:Int))]∧hpL []=hpL [])∧Wk (AV.lit (Value.bool false)) (AV.lit (Value.bool false))∧SameH (hpL []) (hpL [])):=by kernel_rfl
def ogPreE:Orc:=Orc.s (Orc.t (Orc.t Orc.z)) (Orc.f (Orc.f Orc.z))
theorem gPreE_vc (x:ByteArray)(b:Bool):gPreE ogPreE x b=(true=true∧∃ (_:Unit),(True∧Wks [AV.lit (Value.string x),AV.lst false 1 (List.map byteA (Array.toList (ByteArray.data x))),AV.lit (Value.int IntKind.i64 (↑(List.length (List.map byteA (Array.toList (ByteArray.data x)))):Int)),AV.lit (Value.int IntKind.i64 (0:Int))] [AV.lit (Value.string x),AV.lst false 1 (List.map byteA (Array.toList (ByteArray.data x))),AV.lit (Value.int IntKind.i64 (↑(ByteArray.size x):Int)),AV.lit (Value.int IntKind.i64 (0:Int))]∧hpL []=hpL [])∧((!ByteArray.toList x==ByteArray.toList ⟨⟨[]⟩⟩)=true→true=true∧true=true∧Wk (AV.lit (Value.bool (decide ((↑(ByteArray.size x):Int)≤(64:Int))))) (AV.lit (Value.bool b))∧SameH (hpL []) (hpL []))∧((!ByteArray.toList x==ByteArray.toList ⟨⟨[]⟩⟩)=false→false=false∧false=false∧Wk (AV.lit (Value.bool false)) (AV.lit (Value.bool b))∧SameH (hpL []) (hpL []))):=by kernel_rfl
end Go.Proofs.YtpofhijgccocpaaGreatDoor
end
section
namespace Go.Proofs.YtpofhijgccocpaaGreatDoor
open Go.AS Go.TP
noncomputable section
theorem nth_byte (x:ByteArray){i:Int}(h0:0≤i)(h:i<x.size)(d:AV):(x.data.toList.map byteA).getD i.toNat d=c0 (byteAt x i.toNat):=by
 have hl:i.toNat<x.data.toList.length:=by rw [Array.length_toList]; have:x.data.size=x.size:=rfl; omega
 have hl':i.toNat<x.data.size:=by rw [←Array.length_toList]; exact hl
 rw [List.getD_eq_getElem?_getD,List.getElem?_map,List.getElem?_eq_getElem hl]
 unfold byteAt
 rw [Array.getD_eq_getD_getElem?,Array.getElem?_eq_getElem hl']
 rfl
theorem bytes_len (x:ByteArray):(x.data.toList.map byteA).length=x.size:=by rw [List.length_map,Array.length_toList]; rfl
theorem shpN8 (n:Int):isShp (Cx.B (cxV XN 8 fNumber)) shN 5 (.lit (.int .u8 n))=true:=by kernel_rfl
theorem shpP8 (n:Int):isShp (Cx.B (cxV XP 8 fIsPrefix)) shN 5 (.lit (.int .u8 n))=true:=by kernel_rfl
def allFrom (p:UInt8→Bool)(x:ByteArray)(i:Int):Bool:=(x.data.toList.drop i.toNat).all p
theorem allFrom_end {p:UInt8→Bool}{x:ByteArray}{i:Int}(h:¬i<x.size):allFrom p x i=true:=by
 unfold allFrom
 rw [List.drop_of_length_le (by rw [Array.length_toList]; have:x.data.size=x.size:=rfl; omega)]; rfl
theorem allFrom_step {p:UInt8→Bool}{q:Nat→Bool}(hq:∀ c:UInt8,p c=q c.toNat){x:ByteArray}{i:Int}(h0:0≤i)(h:i<x.size):allFrom p x i=(q (byteAt x i.toNat)&&allFrom p x (i+1)):=by
 unfold allFrom
 have hl:i.toNat<x.data.toList.length:=by rw [Array.length_toList]; have:x.data.size=x.size:=rfl; omega
 have hl':i.toNat<x.data.size:=by rw [←Array.length_toList]; exact hl
 have e:(i+1).toNat=i.toNat+1:=by omega
 rw [List.drop_eq_getElem_cons hl,List.all_cons,hq,e]
 congr 2
 unfold byteAt
 rw [Array.getD_eq_getD_getElem?,Array.getElem?_eq_getElem hl']; rfl
def digQ (c:Nat):Bool:=decide (48≤c)&&decide (c≤57)
def hexQ (c:Nat):Bool:=(decide (48≤c)&&decide (c≤57))||(decide (97≤c)&&decide (c≤102))
theorem digQ_eq (c:UInt8):isDigB c=digQ c.toNat:=rfl
theorem hexQ_eq (c:UInt8):isHexB c=hexQ c.toNat:=rfl
theorem digitI_neg {c:Nat}:digitI c<0↔hexQ c=false:=by
 unfold digitI hexQ
 by_cases h1:48≤c∧c≤57
 · rw [if_pos h1]; simp [h1.1,h1.2]; omega
 · rw [if_neg h1]
   by_cases h2:97≤c∧c≤102
   · rw [if_pos h2]; simp [h2.1,h2.2]; omega
   · rw [if_neg h2]; simp; omega
theorem toList_nil (x:ByteArray):(!ByteArray.toList x==ByteArray.toList { data:={ toList:=[] } })=decide (0<x.size):=by
 show (!ByteArray.toList x==ByteArray.toList ByteArray.empty)=_
 rw [ByteArray.toList_eq,ByteArray.toList_eq]
 show (!(x.data.toList==[]))=_
 by_cases h:0<x.size
 · rw [decide_eq_true h]
   have:x.data.toList≠[]:=fun e=>by
     have h2:x.data.toList.length=x.size:=by rw [Array.length_toList]; rfl
     rw [e] at h2; simp at h2; omega
   rw [beq_eq_false_iff_ne.2 this]; rfl
 · rw [decide_eq_false h]
   have h2:x.data.toList.length=x.size:=by rw [Array.length_toList]; rfl
   have:x.data.toList=[]:=List.eq_nil_of_length_eq_zero (by omega)
   simp [this]
theorem rPreE_ok {P:Prop}{x:ByteArray}{i:Int}(h:¬i<x.size):rPreE (Orc.f Orc.z) P x i:=by
 rw [rPreE_vc]; exact ⟨decide_eq_false h,rfl, .refl _, .rfl⟩
theorem rPreX_ok {P:Prop}{x:ByteArray}{i:Int}(h0:0≤i)(h:i<x.size)(hd:hexQ (byteAt x i.toNat)=false):rPreX (Orc.t (Orc.t Orc.z)) P x i:=by
 rw [rPreX_vc,nth_byte x h0 h,bytes_len]
 refine ⟨decide_eq_true h,?_,_,⟨byteAt_lt x i.toNat, .refl _,rfl⟩,decide_eq_true (digitI_neg.2 hd),rfl, .refl _, .rfl⟩
 rw [decide_eq_true ⟨h0,h⟩,shpP8]; rfl
theorem rPreA_ok {P:Prop}{x:ByteArray}{i:Int}(hx:x.size≤1000000)(h0:0≤i)(h:i<x.size)(hd:hexQ (byteAt x i.toNat)=true)(hP:P):rPreA (Orc.t (Orc.f Orc.z)) P x i:=by
 rw [rPreA_vc,nth_byte x h0 h,bytes_len]
 refine ⟨decide_eq_true h,?_,_,⟨byteAt_lt x i.toNat, .refl _,rfl⟩,decide_eq_false (fun k=>by rw [digitI_neg.1 k] at hd; cases hd),inR_i64 (by omega) (by omega),(),⟨hP, .refl _,rfl⟩,rfl, .refl _, .rfl⟩
 rw [decide_eq_true ⟨h0,h⟩,shpP8]; rfl
theorem rPreB_ok {P:Prop}{x:ByteArray}{i:Int}(hx:x.size≤1000000)(h0:0≤i)(h:i<x.size)(hd:hexQ (byteAt x i.toNat)=true)(hP:P):rPreB (Orc.t (Orc.f Orc.z)) P x i:=by
 rw [rPreB_vc,nth_byte x h0 h,bytes_len]
 refine ⟨decide_eq_true h,?_,_,⟨byteAt_lt x i.toNat, .refl _,rfl⟩,decide_eq_false (fun k=>by rw [digitI_neg.1 k] at hd; cases hd),inR_i64 (by omega) (by omega),(),⟨hP, .refl _,rfl⟩,rfl, .refl _, .rfl⟩
 rw [decide_eq_true ⟨h0,h⟩,shpP8]; rfl
abbrev BPre (xs:List AV)(r:Ex × Back):Prop:=BlkOk Tryz.prog gl0 (fn fIsPrefix).ntmps (loopAt (code fIsPrefix) 0) [0,6,7,8] preOuts xs .nil fun _ q=>q=r
theorem XP_ok:XP.Sound:=(X1_ok.ask _).askAt _ _
set_option maxRecDepth 100000 in
theorem preRound {os:Orc}{P:Prop}{x:ByteArray}{i:Int}{r r':Ex × Back}(ih:P→BPre (preArgs x (i+1)) r')(h:rPre os P x i r r'):BPre (preArgs x i) r :=
 lp_round (X:=XP) XP_ok (f:=fIsPrefix) (fn:=fn fIsPrefix) (code:=code fIsPrefix) (fnOk fIsPrefix (by kernel_rfl)) (show (fn fIsPrefix).body=some (code fIsPrefix) by kernel_rfl) (L:=lpPre P x (i+1) r') (L':=lpPre P x (i+1) r') (l:=[⟨Unit,fun _=>P,fun _=>preArgs x (i+1),fun _ => .nil,fun _=>r'⟩]) rfl (show ([0,6,7,8]:List Nat).Nodup by decide)
  (fun s' hs' q hq=>by obtain rfl:=List.mem_singleton.1 hs'; exact ih hq) h
attribute [local irreducible] runL in
set_option maxRecDepth 100000 in
theorem preL (x:ByteArray)(hx:x.size≤1000000):∀ (f:Nat)(i:Int),0≤i→x.size-i≤f→BPre (preArgs x i) (if allFrom isHexB x i=true then preEnd x else preBad):=by
 intro f
 induction f with
 | zero=>intro i h0 h1; rw [if_pos (allFrom_end (by omega))]; exact preRound (P:=False) (r':=preEnd x) (fun h=>h.elim) (rPreE_ok (by omega))
 | succ f ih =>
  intro i h0 h1
  by_cases hi:i<x.size
  · have ih:=ih (i+1) (by omega) (by omega)
    rw [allFrom_step hexQ_eq h0 hi]
    cases hd:hexQ (byteAt x i.toNat) with
    | false=>rw [Bool.false_and,if_neg (by decide)]; exact preRound (P:=False) (r':=preBad) (fun h=>h.elim) (rPreX_ok h0 hi hd)
    | true =>
      rw [Bool.true_and]
      by_cases ha:allFrom isHexB x (i+1)=true
      · rw [if_pos ha] at ih ⊢; exact preRound (P:=True) (fun _=>ih) (rPreA_ok hx h0 hi hd trivial)
      · rw [if_neg ha] at ih ⊢; exact preRound (P:=True) (fun _=>ih) (rPreB_ok hx h0 hi hd trivial)
  · rw [if_pos (allFrom_end hi)]; exact preRound (P:=False) (r':=preEnd x) (fun h=>h.elim) (rPreE_ok hi)
set_option maxRecDepth 100000 in
theorem preAdd {x:ByteArray}{q:Ex × Back}(h:BPre (preArgs x 0) q):(X1.addLp fIsPrefix 0 (lpPre True x 0 q)).Sound :=
 X1_ok.addLp (fnOk fIsPrefix (by kernel_rfl)) (show (fn fIsPrefix).body=some (code fIsPrefix) by kernel_rfl) (by kernel_rfl)
  (Spl.ok (l:=[⟨Unit,fun _=>True,fun _=>preArgs x 0,fun _ => .nil,fun _=>q⟩]) rfl (show ([0,6,7,8]:List Nat).Nodup by decide) fun s' hs' i _=>by obtain rfl:=List.mem_singleton.1 hs'; exact h)
attribute [local irreducible] runF in
set_option maxRecDepth 100000 in
theorem preFn {x:ByteArray}{q:Ex × Back}{os:Orc}{b:Bool}(h:BPre (preArgs x 0) q)(hg:gPre os x q b):F fIsPrefix [s0 x] (b0 b) :=
 fn_ok (X:=(X1.addLp fIsPrefix 0 (lpPre True x 0 q)).ask [fIsPrefix]) (d:=10) ((preAdd h).ask _) (f:=fIsPrefix) (fn:=fn fIsPrefix) (code:=code fIsPrefix) (fnOk fIsPrefix (by kernel_rfl)) (show (fn fIsPrefix).body=some (code fIsPrefix) by kernel_rfl) (by kernel_rfl) hg
theorem gPreX_ok (x:ByteArray):gPreX Orc.z x:=by
 rw [gPreX_vc,bytes_len]; exact ⟨rfl,(),⟨trivial, .refl _,rfl⟩, .refl _, .rfl⟩
theorem gPreE_ok (x:ByteArray):gPreE ogPreE x (decide (0<x.size)&&decide (x.size≤64)):=by
 rw [gPreE_vc,bytes_len,toList_nil]
 refine ⟨rfl,(),⟨trivial, .refl _,rfl⟩,fun h => ?_,fun h => ?_⟩
 · rw [h]
   refine ⟨rfl,rfl, .of_eq ?_, .rfl⟩
   rw [Bool.true_and]; congr 3
   exact propext ⟨fun h=>by omega,fun h=>by omega⟩
 · rw [h]; exact ⟨rfl,rfl, .refl _, .rfl⟩
attribute [local irreducible] runF runL in
set_option maxRecDepth 100000 in
theorem isPrefix_ok (x:ByteArray)(hx:x.size≤1000000):F fIsPrefix [s0 x] (b0 (isPrefixS x)):=by
 have h:=preL x hx x.size 0 (Int.le_refl _) (by omega)
 have e:isPrefixS x=(allFrom isHexB x 0&&(decide (0<x.size)&&decide (x.size≤64))):=by
  unfold isPrefixS allFrom; rw [show (0:Int).toNat=0 from rfl,List.drop_zero,Bool.and_assoc]
 rw [e]
 cases ha:allFrom isHexB x 0 with
 | true=>rw [ha,if_pos rfl] at h; rw [Bool.true_and]; exact preFn h (gPreE_ok x)
 | false=>rw [ha,if_neg (by decide)] at h; rw [Bool.false_and]; exact preFn h (gPreX_ok x)
theorem rNumE_ok {P:Prop}{k a:Int}{x:ByteArray}{i:Int}(h:¬i<x.size):rNumE (Orc.f Orc.z) P k a x i:=by
 rw [rNumE_vc]; exact ⟨decide_eq_false h,rfl, .refl _, .rfl⟩
theorem rNumX_ok {P:Prop}{k a:Int}{x:ByteArray}{i:Int}(h0:0≤i)(h:i<x.size)(hd:digQ (byteAt x i.toNat)=false):rNumX orNumX P k a x i:=by
 rw [rNumX_vc,nth_byte x h0 h,bytes_len]
 refine ⟨decide_eq_true h,?_,fun g=>⟨rfl,rfl,rfl, .refl _, .rfl⟩,fun g=>⟨rfl,decide_eq_true ?_,rfl, .refl _, .rfl⟩⟩
 · rw [decide_eq_true ⟨h0,h⟩,shpN8]; rfl
 · have g:¬((byteAt x i.toNat:Int)<48):=of_decide_eq_false g
   show (byteAt x i.toNat:Int)>57
   unfold digQ at hd
   have:¬(48≤byteAt x i.toNat∧byteAt x i.toNat≤57):=fun q=>by rw [decide_eq_true q.1,decide_eq_true q.2] at hd; cases hd
   omega
theorem dig_lt {c:Nat}(h:digQ c=true):48≤c∧c≤57:=by
 unfold digQ at h; rw [Bool.and_eq_true] at h; exact ⟨of_decide_eq_true h.1,of_decide_eq_true h.2⟩
theorem rNumA_ok {P:Prop}{k a:Int}{x:ByteArray}{i:Int}(hx:x.size≤1000000)(h0:0≤i)(h:i<x.size)(hd:digQ (byteAt x i.toNat)=true)(hP:P):rNumA orNumA P k a x i:=by
 rw [rNumA_vc,nth_byte x h0 h,bytes_len]
 have hc:=dig_lt hd
 refine ⟨decide_eq_true h,?_,decide_eq_false (show ¬((byteAt x i.toNat:Int)<48) by omega),rfl,decide_eq_false (show ¬((byteAt x i.toNat:Int)>57) by omega),inR_i64 (by omega) (by omega),(),⟨hP, .refl _,rfl⟩,rfl, .refl _, .rfl⟩
 rw [decide_eq_true ⟨h0,h⟩,shpN8]; rfl
theorem rNumB_ok {P:Prop}{k a:Int}{x:ByteArray}{i:Int}(hx:x.size≤1000000)(h0:0≤i)(h:i<x.size)(hd:digQ (byteAt x i.toNat)=true)(hP:P):rNumB orNumB P k a x i:=by
 rw [rNumB_vc,nth_byte x h0 h,bytes_len]
 have hc:=dig_lt hd
 refine ⟨decide_eq_true h,?_,decide_eq_false (show ¬((byteAt x i.toNat:Int)<48) by omega),rfl,decide_eq_false (show ¬((byteAt x i.toNat:Int)>57) by omega),inR_i64 (by omega) (by omega),(),⟨hP, .refl _,rfl⟩,rfl, .refl _, .rfl⟩
 rw [decide_eq_true ⟨h0,h⟩,shpN8]; rfl
abbrev BNum (xs:List AV)(r:Ex × Back):Prop:=BlkOk Tryz.prog gl0 (fn fNumber).ntmps (loopAt (code fNumber) 0) [1,10,11,12] numOuts xs .nil fun _ q=>q=r
theorem XN_ok:XN.Sound:=(X1_ok.ask _).askAt _ _
set_option maxRecDepth 100000 in
theorem numRound {os:Orc}{P:Prop}{k a:Int}{x:ByteArray}{i:Int}{r r':Ex × Back}(ih:P→BNum (numArgs k a x (i+1)) r')(h:rNum os P k a x i r r'):BNum (numArgs k a x i) r :=
 lp_round (X:=XN) XN_ok (f:=fNumber) (fn:=fn fNumber) (code:=code fNumber) (fnOk fNumber (by kernel_rfl)) (show (fn fNumber).body=some (code fNumber) by kernel_rfl) (L:=lpNum P k a x (i+1) r') (L':=lpNum P k a x (i+1) r') (l:=[⟨Unit,fun _=>P,fun _=>numArgs k a x (i+1),fun _ => .nil,fun _=>r'⟩]) rfl (show ([1,10,11,12]:List Nat).Nodup by decide)
  (fun s' hs' q hq=>by obtain rfl:=List.mem_singleton.1 hs'; exact ih hq) h
attribute [local irreducible] runL in
set_option maxRecDepth 100000 in
theorem numL (k a:Int)(x:ByteArray)(hx:x.size≤1000000):∀ (f:Nat)(i:Int),0≤i→x.size-i≤f→BNum (numArgs k a x i) (if allFrom isDigB x i=true then numEnd k a x else numBad):=by
 intro f
 induction f with
 | zero=>intro i h0 h1; rw [if_pos (allFrom_end (by omega))]; exact numRound (P:=False) (r':=numEnd k a x) (fun h=>h.elim) (rNumE_ok (by omega))
 | succ f ih =>
  intro i h0 h1
  by_cases hi:i<x.size
  · have ih:=ih (i+1) (by omega) (by omega)
    rw [allFrom_step digQ_eq h0 hi]
    cases hd:digQ (byteAt x i.toNat) with
    | false=>rw [Bool.false_and,if_neg (by decide)]; exact numRound (P:=False) (r':=numBad) (fun h=>h.elim) (rNumX_ok h0 hi hd)
    | true =>
      rw [Bool.true_and]
      by_cases ha:allFrom isDigB x (i+1)=true
      · rw [if_pos ha] at ih ⊢; exact numRound (P:=True) (fun _=>ih) (rNumA_ok hx h0 hi hd trivial)
      · rw [if_neg ha] at ih ⊢; exact numRound (P:=True) (fun _=>ih) (rNumB_ok hx h0 hi hd trivial)
  · rw [if_pos (allFrom_end hi)]; exact numRound (P:=False) (r':=numEnd k a x) (fun h=>h.elim) (rNumE_ok hi)
end
end Go.Proofs.YtpofhijgccocpaaGreatDoor
end
section
namespace Go.Proofs.YtpofhijgccocpaaGreatDoor
open Go.AS Go.TP Go.RowKit
noncomputable section
theorem entersA (vals:Array Value)(w:World):(callFunc fAtoi vals).run Tryz.prog w = .ok (.enter fAtoi vals) w:=by
 have h0:(program).run Tryz.prog w = .ok Tryz.prog w:=rfl
 have hf:Tryz.prog.funcs[fAtoi]?=some (fn fAtoi):=fnOk fAtoi (by kernel_rfl)
 have hn:((fn fAtoi).name == "runtime.NumGoroutine")=false:=by kernel_rfl
 have hb:(fn fAtoi).body.isNone=false:=by kernel_rfl
 simp only [callFunc,Sem.run_bind,h0,Result.andThen_ok,hf,hn,hb,Bool.false_eq_true,if_false,Sem.run_pure]
theorem holds_below {E:Env}{w w':World}(h:Holds E .nil w)(hb:Below w.heap.size w w'):Holds E .nil w'∧Adv E .nil w E .nil w' :=
 ⟨⟨fun b o hm=>by
   have:=h.imm b o hm
   rw [hb.block b]; exact this
   cases hl:w.heap[b]? with
   | none=>rw [hl] at this; cases this
   | some _=>exact (Array.getElem?_eq_some_iff.1 hl).1,
  fun l e he=>(by rw [aget_nil] at he; cases he),fun b hb=>(no_own hb).elim,fun l l' e e' L L' b h1=>(by rw [aget_nil] at h1; cases h1)⟩,
  ⟨E.le_refl,hb.os,hb.tape,hb.output,hb.size,fun b hl _=>hb.block b hl,fun b h => .inl h,fun b h => .inl h⟩⟩
theorem bytesWorld_below' (w:World)(e:TypeId)(s:ByteArray):Below w.heap.size w (Lib.bytesWorld w e s):=Lib.bytesWorld_below w e s
theorem atoi_ok (s:ByteArray)(hs:s.size≤1000000)(v:Int)(h:Lib.atoiAll s.data.toList = .ok v):F fAtoi [s0 s] (.tup [i0 v, .lit .nilIface]):=by
 intro E w vals hg hh hf _ hv
 obtain ⟨u,us,h1,h2,rfl⟩:=hv.vs_cons_inv
 have:=h1.lit_inv; subst this
 have:=h2.vs_nil_inv; subst this
 refine .inl ⟨entersA _ w,(Tryz.strconv_Atoi_ok s (by omega) v h w).mono ?_⟩
 rintro e w' ⟨rfl,hw⟩
 have hb:Below w.heap.size w w':=by
  rcases hw with rfl | ⟨t,rfl⟩
  · exact Below.refl _ _
  · exact bytesWorld_below' _ _ _
 obtain ⟨g1,g2⟩:=holds_below hh hb
 exact ⟨_,rfl, .z,_,E,rfl,⟨fun l _=>rfl,fun l e he=>⟨e,he⟩⟩, .tup (.vcons (.lit _) (.vcons (.lit _) .vnil)),g1,g2⟩
theorem holds_new {E:Env}{w w':World}{N:Nat}{o:Obj}(h:Holds E .nil w)(hN:w.heap.size≤N)(ho:w'.heap[N]?=some o)(hb:Below w.heap.size w w') :
  ∃ E':Env,E.le E'∧E'.m N=some o∧Holds E' .nil w'∧Adv E .nil w E' .nil w':=by
 obtain ⟨g1,g2⟩:=holds_below h hb
 have hlt:∀ b o',E.m b=some o'→b<w.heap.size:=fun b o' hm=>by
  have:=h.imm b o' hm
  exact (Array.getElem?_eq_some_iff.1 this).1
 have hle:E.le ⟨E.ρ,fun b=>if b=N then some o else E.m b⟩:=⟨fun i L hi=>hi,fun b o' hm=>by
  show (if b=N then some o else E.m b)=some o'
  rw [if_neg (by have:=hlt b o' hm; omega)]; exact hm⟩
 refine ⟨_,hle,if_pos rfl,⟨fun b o' hm => ?_,fun l e he=>(by rw [aget_nil] at he; cases he),fun b hb=>(no_own hb).elim,fun l l' e e' L L' b h1=>(by rw [aget_nil] at h1; cases h1)⟩,
  ⟨hle,hb.os,hb.tape,hb.output,hb.size,fun b hl _=>hb.block b hl,fun b h=>(no_own h).elim,fun b hm => ?_⟩⟩
 · by_cases hbN:b=N
   · subst hbN
     have hm:(if b=b then some o else E.m b)=some o':=hm
     rw [if_pos rfl] at hm; cases hm; exact ho
   · have hm:(if b=N then some o else E.m b)=some o':=hm
     rw [if_neg hbN] at hm; exact g1.imm b o' hm
 · by_cases hbN:b=N
   · exact .inr (.inr (by omega))
   · have hm:(if b=N then some o else E.m b)≠none:=hm
     rw [if_neg hbN] at hm; exact .inl hm
theorem global_cell {E:Env}{w:World}{g:Nat}{s:ByteArray}(hg:GLr gl0 E)(hh:Holds E .nil w)(h:gl0 g=some (.ref (errStr s))):∃ v,w.cell? ⟨g,0,none⟩=some (.iface tErrStrP v)∧RR E.pure .o [.ref (.agg [s0 s])] [v]:=by
 have:=(hg g _ h).vr
 obtain ⟨b,off,c,t,fz,cs,rest,he,hm,hx,hc⟩:=this.ref_invP
 cases he
 obtain ⟨v,cs',h1,h2,rfl⟩:=hx.cs_cons_inv
 have:=h2.cs_nil_inv; subst this
 obtain ⟨u,rfl,h3⟩:=h1.iface_inv
 refine ⟨u,?_,h3⟩
 have h4:=hh.imm _ _ hm
 have h5:c.toList=[Value.iface tErrStrP u]++rest:=hc
 have h6:c[0]?=some (Value.iface tErrStrP u):=by rw [←Array.getElem?_toList,h5]; rfl
 unfold World.cell?
 rw [h4]
 exact h6
def numErr (s e:ByteArray):AV := .ref (.agg [s0 ⟨#[65,116,111,105]⟩,s0 s,errStr e])
theorem numErr_vr {E E':Env}{s e:ByteArray}{u:Value}{N:Nat}{t:TypeId}(hle:E.le E')(hm:E'.m N=some (.cells #[.string ⟨#[65,116,111,105]⟩, .string s, .iface tErrStrP u] t (0,0)))(hu:RR E.pure .o [.ref (.agg [s0 e])] [u]):VR E' (numErr s e) (.pointer (some ⟨N,0,none⟩)):=by
 have h1:RR E'.pure .o [.ref (.agg [s0 e])] [u]:=hu.mono hle.pure
 have hx:RR E'.pure .cs [.agg [s0 ⟨#[65,116,111,105]⟩,s0 s,errStr e]] ([Value.string ⟨#[65,116,111,105]⟩, .string s, .iface tErrStrP u]++[]) :=
  .ccons (v := .agg #[.string ⟨#[65,116,111,105]⟩, .string s, .iface tErrStrP u]) (.agg (.ccons (.lit _) (.ccons (.lit _) (.ccons (.iface _ h1) .cnil)))) .cnil
 exact .ref hm hx rfl
theorem atoi_err (s:ByteArray)(hs:s.size≤1000000)(h:Lib.atoiAll s.data.toList=Lib.atoiAll []∨Lib.atoiAll s.data.toList = .range):∃ n u,F fAtoi [s0 s] (.tup [i0 n, .iface tNumErrP (.ref u)]):=by
 rcases h with h | h
 · refine ⟨0, .agg [s0 ⟨#[65,116,111,105]⟩,s0 s,errStr eSyn],?_⟩
   intro E w vals hg hh hf _ hv
   obtain ⟨u,us,h1,h2,rfl⟩:=hv.vs_cons_inv
   have:=h1.lit_inv; subst this
   have:=h2.vs_nil_inv; subst this
   obtain ⟨ev,hev,hvr⟩:=global_cell hg hh (g:=gSyntax) rfl
   refine .inl ⟨entersA _ w,(Tryz.strconv_Atoi_syntax s (by omega) h _ w hev (.inr ⟨_,_,rfl⟩)).mono ?_⟩
   rintro e w' ⟨N,rfl,hN,ho,hb⟩
   obtain ⟨E',k1,k2,k3,k4⟩:=holds_new hh hN ho hb
   exact ⟨_,rfl, .z,_,E',rfl,⟨fun l _=>rfl,fun l e he=>⟨e,he⟩⟩, .tup (.vcons (.lit _) (.vcons (.iface _ (numErr_vr k1 k2 hvr)) .vnil)),k3,k4⟩
 · refine ⟨Lib.atoiSat s.data.toList, .agg [s0 ⟨#[65,116,111,105]⟩,s0 s,errStr eRan],?_⟩
   intro E w vals hg hh hf _ hv
   obtain ⟨u,us,h1,h2,rfl⟩:=hv.vs_cons_inv
   have:=h1.lit_inv; subst this
   have:=h2.vs_nil_inv; subst this
   obtain ⟨ev,hev,hvr⟩:=global_cell hg hh (g:=gRange) rfl
   refine .inl ⟨entersA _ w,(Tryz.strconv_Atoi_range s (by omega) h _ w hev (.inr ⟨_,_,rfl⟩)).mono ?_⟩
   rintro e w' ⟨N,rfl,hN,ho,hb⟩
   obtain ⟨E',k1,k2,k3,k4⟩:=holds_new hh hN ho hb
   exact ⟨_,rfl, .z,_,E',rfl,⟨fun l _=>rfl,fun l e he=>⟨e,he⟩⟩, .tup (.vcons (.lit _) (.vcons (.iface _ (numErr_vr k1 k2 hvr)) .vnil)),k3,k4⟩
theorem parse_digs:∀ (l:List UInt8)(acc m:Nat),l.all isDigB=true→acc<10 ^ m→m+l.length≤12→∃ u:Nat,Lib.parseUint10 acc l = .ok u∧(u:Int)=l.foldl (fun a c=>10*a+(c.toNat-48:Int)) acc∧u<10 ^ (m+l.length)
 | [],acc,m,_,ha,_=>⟨acc,rfl,rfl,ha⟩
 | c::r,acc,m,h,ha,hl=>by
  rw [List.all_cons,Bool.and_eq_true] at h
  have hc:=dig_lt (c:=c.toNat) (by rw [←digQ_eq]; exact h.1)
  rw [List.length_cons] at hl
  have hp:10 ^ m≤10 ^ 11:=Nat.pow_le_pow_right (by omega) (by omega)
  have hlt:acc*10+(c.toNat-48)<10 ^ (m+1):=by rw [Nat.pow_succ]; omega
  obtain ⟨u,h1,h2,h3⟩:=parse_digs r (acc*10+(c.toNat-48)) (m+1) h.2 hlt (by omega)
  refine ⟨u,?_,?_,by rw [List.length_cons,show m+(r.length+1)=m+1+r.length by omega]; exact h3⟩
  · rw [Lib.parseUint10,if_pos hc,if_neg (by omega),if_neg (by omega)]; exact h1
  · rw [h2,List.foldl_cons]; congr 1; omega
theorem atoiAll_digs {l:List UInt8}(h:l.all isDigB=true)(h0:0<l.length)(h6:l.length≤6):Lib.atoiAll l = .ok (numB l):=by
 obtain ⟨u,h1,h2,h3⟩:=parse_digs l 0 0 h (by omega) (by omega)
 match l,h0 with
 | c::r,_ =>
  have hc:=dig_lt (c:=c.toNat) (by rw [←digQ_eq]; rw [List.all_cons,Bool.and_eq_true] at h; exact h.1)
  have hp:10 ^ (0+(c::r).length)≤10 ^ 6:=Nat.pow_le_pow_right (by omega) (by omega)
  have e1:(if c.toNat=43∨c.toNat=45 then r else c::r)=c::r:=if_neg (by omega)
  have e2:Lib.parseMag (c::r) = .ok u:=by rw [Lib.parseMag,if_neg (by simp)]; exact h1
  have e3:¬c.toNat=45:=by omega
  have e4:¬(¬c.toNat=45∧9223372036854775808≤u):=by omega
  have e5:¬(c.toNat=45∧9223372036854775808<u):=by omega
  unfold Lib.atoiAll
  simp only [e1,e2,if_neg e4,if_neg e5,if_neg e3,h2]
  rfl
end
end Go.Proofs.YtpofhijgccocpaaGreatDoor
end
section
namespace Go.Proofs.YtpofhijgccocpaaGreatDoor
open Go.AS Go.TP
noncomputable section
set_option maxRecDepth 100000 in
theorem numAdd {k a:Int}{x:ByteArray}{n:Int}{e:AV}{q:Ex × Back}(ha:F fAtoi [s0 x] (.tup [i0 n,e]))(h:BNum (numArgs k a x 0) q):((X1.add fAtoi (Sp.con [spAtoi x n e])).addLp fNumber 0 (lpNum True k a x 0 q)).Sound :=
 (X1_ok.add (conOk (s:=spAtoi x n e) fun _ _=>ha)).addLp (fnOk fNumber (by kernel_rfl)) (show (fn fNumber).body=some (code fNumber) by kernel_rfl) (by kernel_rfl)
  (Spl.ok (l:=[⟨Unit,fun _=>True,fun _=>numArgs k a x 0,fun _ => .nil,fun _=>q⟩]) rfl (show ([1,10,11,12]:List Nat).Nodup by decide) fun s' hs' i _=>by obtain rfl:=List.mem_singleton.1 hs'; exact h)
attribute [local irreducible] runF in
set_option maxRecDepth 100000 in
theorem numFn {k a:Int}{x:ByteArray}{n:Int}{e:AV}{q:Ex × Back}{os:Orc}{m:Int}{b:Bool}(ha:F fAtoi [s0 x] (.tup [i0 n,e]))(h:BNum (numArgs k a x 0) q)(hg:gNumber os k a x q n e m b):F fNumber [.agg [i0 k,i0 a,s0 x]] (.tup [i0 m,b0 b]) :=
 fn_ok (X:=((X1.add fAtoi (Sp.con [spAtoi x n e])).addLp fNumber 0 (lpNum True k a x 0 q)).ask [fNumber]) (d:=10) ((numAdd ha h).ask _) (f:=fNumber) (fn:=fn fNumber) (code:=code fNumber) (fnOk fNumber (by kernel_rfl)) (show (fn fNumber).body=some (code fNumber) by kernel_rfl) (by kernel_rfl) hg
theorem gNumX_ok (k a:Int)(x:ByteArray)(n:Int)(e:AV):gNumX Orc.z k a x n e:=by
 rw [gNumX_vc,bytes_len]; exact ⟨rfl,(),⟨trivial, .refl _,rfl⟩, .refl _, .rfl⟩
theorem gNumOk_ok (a:Int)(x:ByteArray)(n:Int)(h:x.size≤6):gNumOk ogNumOk a x n:=by
 rw [gNumOk_vc,bytes_len]; exact ⟨rfl,(),⟨trivial, .refl _,rfl⟩,(),⟨trivial, .refl _,rfl⟩,rfl,rfl,rfl,rfl,decide_eq_true (by omega),rfl, .refl _, .rfl⟩
theorem gNumNil_ok (k a:Int)(x:ByteArray)(n:Int)(h:¬(k=1∧x.size≤6)):gNumNil ogNumNil k a x n:=by
 rw [gNumNil_vc,bytes_len]
 refine ⟨rfl,(),⟨trivial, .refl _,rfl⟩,(),⟨trivial, .refl _,rfl⟩,fun h1=>⟨rfl,rfl,rfl,fun h2 => ?_,fun h2=>⟨rfl, .refl _, .rfl⟩⟩,fun h1=>⟨rfl,rfl,rfl,rfl,rfl, .refl _, .rfl⟩⟩
 have h1:=beq_iff_eq.1 h1
 have h2:(x.size:Int)≤6:=of_decide_eq_true h2
 exact absurd ⟨h1,by omega⟩ h
theorem gNumErr_ok (k a:Int)(x:ByteArray)(n:Int)(t:Nat)(u:AV):gNumErr ogNumErr k a x n t u:=by
 rw [gNumErr_vc,bytes_len]
 exact ⟨rfl,(),⟨trivial, .refl _,rfl⟩,(),⟨trivial, .refl _,rfl⟩,fun h1=>⟨rfl,rfl,rfl,fun h2=>⟨rfl, .refl _, .rfl⟩,fun h2=>⟨rfl, .refl _, .rfl⟩⟩,fun h1=>⟨rfl,rfl,rfl,rfl,rfl, .refl _, .rfl⟩⟩
theorem dig_all (x:ByteArray):x.data.toList.all isDigB=allFrom isDigB x 0:=by unfold allFrom; rw [show (0:Int).toNat=0 from rfl,List.drop_zero]
attribute [local irreducible] runF runL in
set_option maxRecDepth 100000 in
theorem number_some (t:Tk)(n:Int)(h:numberS t=some n):F fNumber [encT t] (.tup [i0 n,b0 true]):=by
 obtain ⟨k,a,x⟩:=t
 unfold numberS at h
 split at h
 · rename_i hc
   cases h
   obtain ⟨h1,h2,h3,h4⟩:=hc
   have h1:k=1:=h1
   subst h1
   have h3:0<x.size:=h3
   have h4:x.size≤6:=h4
   have hl:x.data.toList.length=x.size:=by rw [Array.length_toList]; rfl
   have hB:=numL 1 a x (by omega) x.size 0 (Int.le_refl _) (by omega)
   have h2:x.data.toList.all isDigB=true:=h2
   rw [if_pos (by rw [←dig_all]; exact h2)] at hB
   exact numFn (atoi_ok x (by omega) _ (atoiAll_digs h2 (by omega) (by omega))) hB (gNumOk_ok a x _ h4)
 · cases h
attribute [local irreducible] runF runL in
set_option maxRecDepth 100000 in
theorem number_none (t:Tk)(hs:t.text.size≤1000000)(h:numberS t=none):∃ n,F fNumber [encT t] (.tup [i0 n,b0 false]):=by
 obtain ⟨k,a,x⟩:=t
 have hs:x.size≤1000000:=hs
 have hB:=numL k a x hs x.size 0 (Int.le_refl _) (by omega)
 have ha:(∃ n,F fAtoi [s0 x] (.tup [i0 n, .lit .nilIface])∧Lib.atoiAll x.data.toList = .ok n)∨∃ n u,F fAtoi [s0 x] (.tup [i0 n, .iface tNumErrP (.ref u)]):=by
  generalize hq:Lib.atoiAll x.data.toList=q
  cases q
  · exact .inl ⟨_,atoi_ok x hs _ hq,rfl⟩
  · exact .inr (atoi_err x hs (.inl (hq.trans rfl)))
  · exact .inr (atoi_err x hs (.inr hq))
 by_cases hd:allFrom isDigB x 0=true
 · rw [if_pos hd] at hB
   rcases ha with ⟨n,h1,h2⟩ | ⟨n,u,h1⟩
   · refine ⟨n,numFn h1 hB (gNumNil_ok k a x n fun hc => ?_)⟩
     unfold numberS at h
     split at h
     · cases h
     · rename_i hq
       refine hq ⟨hc.1,by rw [dig_all]; exact hd,?_,hc.2⟩
       show 0<x.size
       cases hz:x.size with
       | zero =>
         have hl:x.data.toList.length=x.size:=by rw [Array.length_toList]; rfl
         have:x.data.toList=[]:=List.eq_nil_of_length_eq_zero (by omega)
         rw [this] at h2; cases h2
       | succ m=>omega
   · exact ⟨n,numFn h1 hB (gNumErr_ok k a x n _ u)⟩
 · rw [if_neg hd] at hB
   rcases ha with ⟨n,h1,h2⟩ | ⟨n,u,h1⟩
   · exact ⟨0,numFn h1 hB (gNumX_ok k a x _ _)⟩
   · exact ⟨0,numFn h1 hB (gNumX_ok k a x _ _)⟩
end
end Go.Proofs.YtpofhijgccocpaaGreatDoor
end
section
namespace Go.Proofs.YtpofhijgccocpaaGreatDoor
open Go.AS Go.TP
noncomputable section
def spPick:Sp := .pure (Int × Int) (fun i=>0<i.2∧i.2≤1000000) (fun i=>[i0 i.1,i0 i.2]) (fun i=>i0 (i.1 % i.2))
def gPick (os:Orc)(n m:Int):Prop:=gF XB [fPick] fPick os [i0 n,i0 m] (i0 (n % m))
def hb0 (p:Int):Int:=[171,171,160,18,254,171].getD (p % 6).toNat 0
end
end Go.Proofs.YtpofhijgccocpaaGreatDoor
end
section
namespace Go.Proofs.YtpofhijgccocpaaGreatDoor
open Go Go.AS Go.TP
theorem gPick_vc (n m:Int):gPick (Orc.s Orc.z Orc.z) n m=((!m==(0:Int))=true∧(decide (Int.tmod n m<(0:Int))=true→inR IntKind.i64 (Int.tmod n m+m)=true∧Wk (i0 (Int.tmod n m+m)) (i0 (n % m))∧SameH (hpL []) (hpL []))∧(decide (Int.tmod n m<(0:Int))=false→Wk (i0 (Int.tmod n m)) (i0 (n % m))∧SameH (hpL []) (hpL []))):=by kernel_rfl
end Go.Proofs.YtpofhijgccocpaaGreatDoor
end
section
namespace Go.Proofs.YtpofhijgccocpaaGreatDoor
open Go.AS Go.TP
noncomputable section
theorem conOk1 {f:Nat}{s:Sp}(h:∀ i,s.pre i→FOk Tryz.prog gl0 f (s.args i) (s.heap i) (s.out i)):ConOk Tryz.prog gl0 f (Sp.con [s]):=Sp.one h
theorem gPick_ok (n m:Int)(h1:0<m)(h2:m≤1000000):gPick (Orc.s Orc.z Orc.z) n m:=by
 rw [gPick_vc]
 obtain ⟨e1,e2⟩:=tmod_pick (n:=n) (m:=m) h1
 have h3:=Int.emod_nonneg n (by omega:m≠0)
 have h4:=Int.emod_lt_of_pos n h1
 refine ⟨by simp; omega,fun h => ?_,fun h => ?_⟩
 · have h:=of_decide_eq_true h
   exact ⟨inR_i64 (by rw [e1 h]; omega) (by rw [e1 h]; omega), .of_eq (by rw [e1 h]), .rfl⟩
 · have h:=of_decide_eq_false h
   exact ⟨.of_eq (by rw [e2 h]), .rfl⟩
set_option maxRecDepth 100000 in
theorem pick_ok (n m:Int)(h1:0<m)(h2:m≤1000000):F fPick [i0 n,i0 m] (i0 (n % m)):=F_ok XB_ok rfl (by kernel_rfl) (by kernel_rfl) (by kernel_rfl) (gPick_ok n m h1 h2)
end
end Go.Proofs.YtpofhijgccocpaaGreatDoor
end
section
namespace Go.Proofs.YtpofhijgccocpaaGreatDoor
open Go.AS Go.TP
noncomputable section
def digs:ByteArray:=⟨#[48,49,50,51,52,53,54,55,56,57,97,98,99,100,101,102]⟩
def nArgs (s:ByteArray)(i:Int):List AV:=[.ptr 1048578 [1,0] 0 0, .ptr 1048577 [0,0] 0 0,s0 s,s0 digs,i0 i]
def hRow (h:Nat→Int):List AV:=(List.range 32).map fun k => .lit (.int .u8 (h k))
def nHeap (xs:List Int)(at_:Int)(h:Nat→Int):Hp:=hpL [(1048577,⟨[0,0], .row true 1 (hRow h)⟩),(1048578,⟨[1,0], .row true 2 [.agg [.lst false 1 (xs.map i0),i0 at_]]⟩)]
def nOut (xs:List Int)(at_:Int)(h:Nat→Int)(s:ByteArray):Ex × Back:=(.exit 0,⟨.tup [.ptr 1048578 [1,0] 0 0,s0 s],nHeap xs at_ h,[]⟩)
abbrev lpNm (Q:ByteArray→Prop)(xs:List Int)(at_:Int)(h:Nat→Int)(i:Int)(r:Ex × Back):Lp :=
 ⟨[0,3,4,5,6],[],fun _=>[0,4],Spl.con [⟨ByteArray,fun s=>Q s,fun s=>nArgs s i,fun _=>nHeap xs at_ h,fun _=>r⟩]⟩
def rNm (os:Orc)(Q:ByteArray→Prop)(xs:List Int)(at_:Int)(h:Nat→Int)(s:ByteArray)(i j:Int)(t:ByteArray):Prop :=
 runL (XB.ask [fMName]) 10 fMName (fn fMName).ntmps (loopAt (code fMName) 0) (lpNm Q xs at_ h j (nOut xs at_ h t)) (lpNm Q xs at_ h j (nOut xs at_ h t)) os 0 [] (nArgs s i) (nHeap xs at_ h) (nOut xs at_ h t)
def rNm2 (os:Orc)(Q:ByteArray→Prop)(xs:List Int)(at_:Int)(h:Nat→Int)(s t:ByteArray):Prop:=rNm os Q xs at_ h s 2 3 t
def rNm3 (os:Orc)(Q:ByteArray→Prop)(xs:List Int)(at_:Int)(h:Nat→Int)(s t:ByteArray):Prop:=rNm os Q xs at_ h s 3 4 t
def rNm4 (os:Orc)(Q:ByteArray→Prop)(xs:List Int)(at_:Int)(h:Nat→Int)(s t:ByteArray):Prop:=rNm os Q xs at_ h s 4 5 t
def rNm5 (os:Orc)(Q:ByteArray→Prop)(xs:List Int)(at_:Int)(h:Nat→Int)(s t:ByteArray):Prop:=rNm os Q xs at_ h s 5 6 t
def rNm6 (os:Orc)(Q:ByteArray→Prop)(xs:List Int)(at_:Int)(h:Nat→Int)(s t:ByteArray):Prop:=rNm os Q xs at_ h s 6 7 t
def rNm7 (os:Orc)(Q:ByteArray→Prop)(xs:List Int)(at_:Int)(h:Nat→Int)(s t:ByteArray):Prop:=rNm os Q xs at_ h s 7 8 t
def rNm8 (os:Orc)(Q:ByteArray→Prop)(xs:List Int)(at_:Int)(h:Nat→Int)(s t:ByteArray):Prop:=rNm os Q xs at_ h s 8 9 t
def rNm9 (os:Orc)(Q:ByteArray→Prop)(xs:List Int)(at_:Int)(h:Nat→Int)(s t:ByteArray):Prop:=rNm os Q xs at_ h s 9 10 t
def rNm10 (os:Orc)(Q:ByteArray→Prop)(xs:List Int)(at_:Int)(h:Nat→Int)(s t:ByteArray):Prop:=rNm os Q xs at_ h s 10 11 t
def rNm11 (os:Orc)(Q:ByteArray→Prop)(xs:List Int)(at_:Int)(h:Nat→Int)(s t:ByteArray):Prop:=rNm os Q xs at_ h s 11 12 t
def rNm12 (os:Orc)(Q:ByteArray→Prop)(xs:List Int)(at_:Int)(h:Nat→Int)(s t:ByteArray):Prop:=rNm os Q xs at_ h s 12 13 t
def rNm13 (os:Orc)(Q:ByteArray→Prop)(xs:List Int)(at_:Int)(h:Nat→Int)(s t:ByteArray):Prop:=rNm os Q xs at_ h s 13 14 t
def rNm14 (os:Orc)(Q:ByteArray→Prop)(xs:List Int)(at_:Int)(h:Nat→Int)(s t:ByteArray):Prop:=rNm os Q xs at_ h s 14 15 t
def rNm15 (os:Orc)(Q:ByteArray→Prop)(xs:List Int)(at_:Int)(h:Nat→Int)(s t:ByteArray):Prop:=rNm os Q xs at_ h s 15 16 t
def rNm16 (os:Orc)(Q:ByteArray→Prop)(xs:List Int)(at_:Int)(h:Nat→Int)(s t:ByteArray):Prop:=rNm os Q xs at_ h s 16 17 t
def rNm17 (os:Orc)(Q:ByteArray→Prop)(xs:List Int)(at_:Int)(h:Nat→Int)(s t:ByteArray):Prop:=rNm os Q xs at_ h s 17 18 t
def rNm18 (os:Orc)(Q:ByteArray→Prop)(xs:List Int)(at_:Int)(h:Nat→Int)(s t:ByteArray):Prop:=rNm os Q xs at_ h s 18 19 t
def rNm19 (os:Orc)(Q:ByteArray→Prop)(xs:List Int)(at_:Int)(h:Nat→Int)(s t:ByteArray):Prop:=rNm os Q xs at_ h s 19 20 t
def rNm20 (os:Orc)(Q:ByteArray→Prop)(xs:List Int)(at_:Int)(h:Nat→Int)(s t:ByteArray):Prop:=rNm os Q xs at_ h s 20 21 t
def rNm21 (os:Orc)(Q:ByteArray→Prop)(xs:List Int)(at_:Int)(h:Nat→Int)(s t:ByteArray):Prop:=rNm os Q xs at_ h s 21 22 t
def rNm22 (os:Orc)(Q:ByteArray→Prop)(xs:List Int)(at_:Int)(h:Nat→Int)(s t:ByteArray):Prop:=rNm os Q xs at_ h s 22 23 t
def rNm23 (os:Orc)(Q:ByteArray→Prop)(xs:List Int)(at_:Int)(h:Nat→Int)(s t:ByteArray):Prop:=rNm os Q xs at_ h s 23 24 t
def rNm24 (os:Orc)(Q:ByteArray→Prop)(xs:List Int)(at_:Int)(h:Nat→Int)(s t:ByteArray):Prop:=rNm os Q xs at_ h s 24 25 t
def rNm25 (os:Orc)(Q:ByteArray→Prop)(xs:List Int)(at_:Int)(h:Nat→Int)(s t:ByteArray):Prop:=rNm os Q xs at_ h s 25 26 t
def rNm26 (os:Orc)(Q:ByteArray→Prop)(xs:List Int)(at_:Int)(h:Nat→Int)(s t:ByteArray):Prop:=rNm os Q xs at_ h s 26 27 t
def rNm27 (os:Orc)(Q:ByteArray→Prop)(xs:List Int)(at_:Int)(h:Nat→Int)(s t:ByteArray):Prop:=rNm os Q xs at_ h s 27 28 t
def rNm28 (os:Orc)(Q:ByteArray→Prop)(xs:List Int)(at_:Int)(h:Nat→Int)(s t:ByteArray):Prop:=rNm os Q xs at_ h s 28 29 t
def rNm29 (os:Orc)(Q:ByteArray→Prop)(xs:List Int)(at_:Int)(h:Nat→Int)(s t:ByteArray):Prop:=rNm os Q xs at_ h s 29 30 t
def rNm30 (os:Orc)(Q:ByteArray→Prop)(xs:List Int)(at_:Int)(h:Nat→Int)(s t:ByteArray):Prop:=rNm os Q xs at_ h s 30 31 t
def rNm31 (os:Orc)(Q:ByteArray→Prop)(xs:List Int)(at_:Int)(h:Nat→Int)(s t:ByteArray):Prop:=rNm os Q xs at_ h s 31 32 t
def rNm32 (os:Orc)(Q:ByteArray→Prop)(xs:List Int)(at_:Int)(h:Nat→Int)(s t:ByteArray):Prop:=rNm os Q xs at_ h s 32 33 s
def hB (p:Int)(k:Nat):Int:=[hb0 p,p / 6*16 % 256,p*7 % 256].getD k (if k=31 then p else 0)
end
end Go.Proofs.YtpofhijgccocpaaGreatDoor
end
section
namespace Go.Proofs.YtpofhijgccocpaaGreatDoor
open Go Go.AS Go.TP
noncomputable abbrev qVM30 (h:Nat→Int)(xs:List Int)(at_:Int):=[eR 1048577 [0,0] 1 (hR h),eR 1048578 [1,0] 2 [AV.agg [AV.lst false 1 (List.map i0 xs),i0 at_]]]
noncomputable abbrev qVM31 (t:ByteArray):=(AV.tup [AV.ptr 1048578 [1,0] 0 0,s0 t])
abbrev rNmT (Q:ByteArray→Prop)(xs:List Int)(at_:Int)(h:Nat→Int)(s t:ByteArray)(i:Nat)(j:Int):Prop:=(let z1:=(some (IntKind.wrap IntKind.u8 (IntKind.wrap IntKind.u8 (Int.tdiv (h i) (16:Int))+(1:Int)))); let z2:=(some (IntKind.wrap IntKind.u8 (Int.tdiv (h i) (16:Int)))); let z3:=(some (IntKind.wrap IntKind.u8 (Int.tmod (h i) (16:Int)+(1:Int)))); let z4:=(some (Int.tmod (h i) (16:Int))); let z5:=(Int.toNat (Option.getD z1 (16:Int))); let z6:=(Int.toNat (Option.getD z2 (0:Int))); let z7:=(qVM30 h xs at_); let z8:=(Int.toNat (Option.getD z3 (16:Int))); let z9:=(Int.toNat (Option.getD z4 (0:Int))); Yt ((true&&true)=true∧(true&&true)=true∧Yt (decide ((0:Int)≤Option.getD z2 (0:Int)∧Option.getD z2 (0:Int)≤Option.getD z1 (16:Int)∧Option.getD z1 (16:Int)≤(16:Int)∧false=false)=true∧decide (ByteArray.size s+ByteArray.size (ByteArray.extract digs z6 z5)≤9223372036854775807)=true∧Yt (Yt (Yt (decide ((0:Int)≤Option.getD z4 (0:Int)∧Option.getD z4 (0:Int)≤Option.getD z3 (16:Int)∧Option.getD z3 (16:Int)≤(16:Int)∧false=false)=true∧decide (ByteArray.size (s++ByteArray.extract digs z6 z5)+ByteArray.size (ByteArray.extract digs z9 z8)≤9223372036854775807)=true∧Yt (∃ (i1:ByteArray),(Q i1∧Wks [AV.ptr 1048578 [1,0] 0 0,AV.ptr 1048577 [0,0] 0 0,s0 (s++ByteArray.extract digs z6 z5++ByteArray.extract digs z9 z8),s0 digs,i0 j] [AV.ptr 1048578 [1,0] 0 0,AV.ptr 1048577 [0,0] 0 0,s0 i1,s0 digs,i0 j]∧hpL z7=hpL z7)∧Ex.exit 0=Ex.exit 0∧Wk (qVM31 t) (qVM31 t)∧SameH (hpL z7) (hpL z7))))))))
theorem rNm2_vc (Q:ByteArray→Prop)(xs:List Int)(at_:Int)(h:Nat→Int)(s t:ByteArray):rNm2 (Orc.t Orc.z) Q xs at_ h s t=rNmT Q xs at_ h s t 2 3:=by kernel_rfl
theorem rNm3_vc (Q:ByteArray→Prop)(xs:List Int)(at_:Int)(h:Nat→Int)(s t:ByteArray):rNm3 (Orc.t Orc.z) Q xs at_ h s t=rNmT Q xs at_ h s t 3 4:=by kernel_rfl
theorem rNm4_vc (Q:ByteArray→Prop)(xs:List Int)(at_:Int)(h:Nat→Int)(s t:ByteArray):rNm4 (Orc.t Orc.z) Q xs at_ h s t=rNmT Q xs at_ h s t 4 5:=by kernel_rfl
theorem rNm5_vc (Q:ByteArray→Prop)(xs:List Int)(at_:Int)(h:Nat→Int)(s t:ByteArray):rNm5 (Orc.t Orc.z) Q xs at_ h s t=rNmT Q xs at_ h s t 5 6:=by kernel_rfl
theorem rNm6_vc (Q:ByteArray→Prop)(xs:List Int)(at_:Int)(h:Nat→Int)(s t:ByteArray):rNm6 (Orc.t Orc.z) Q xs at_ h s t=rNmT Q xs at_ h s t 6 7:=by kernel_rfl
theorem rNm7_vc (Q:ByteArray→Prop)(xs:List Int)(at_:Int)(h:Nat→Int)(s t:ByteArray):rNm7 (Orc.t Orc.z) Q xs at_ h s t=rNmT Q xs at_ h s t 7 8:=by kernel_rfl
theorem rNm8_vc (Q:ByteArray→Prop)(xs:List Int)(at_:Int)(h:Nat→Int)(s t:ByteArray):rNm8 (Orc.t Orc.z) Q xs at_ h s t=rNmT Q xs at_ h s t 8 9:=by kernel_rfl
theorem rNm9_vc (Q:ByteArray→Prop)(xs:List Int)(at_:Int)(h:Nat→Int)(s t:ByteArray):rNm9 (Orc.t Orc.z) Q xs at_ h s t=rNmT Q xs at_ h s t 9 10:=by kernel_rfl
theorem rNm10_vc (Q:ByteArray→Prop)(xs:List Int)(at_:Int)(h:Nat→Int)(s t:ByteArray):rNm10 (Orc.t Orc.z) Q xs at_ h s t=rNmT Q xs at_ h s t 10 11:=by kernel_rfl
theorem rNm11_vc (Q:ByteArray→Prop)(xs:List Int)(at_:Int)(h:Nat→Int)(s t:ByteArray):rNm11 (Orc.t Orc.z) Q xs at_ h s t=rNmT Q xs at_ h s t 11 12:=by kernel_rfl
theorem rNm12_vc (Q:ByteArray→Prop)(xs:List Int)(at_:Int)(h:Nat→Int)(s t:ByteArray):rNm12 (Orc.t Orc.z) Q xs at_ h s t=rNmT Q xs at_ h s t 12 13:=by kernel_rfl
theorem rNm13_vc (Q:ByteArray→Prop)(xs:List Int)(at_:Int)(h:Nat→Int)(s t:ByteArray):rNm13 (Orc.t Orc.z) Q xs at_ h s t=rNmT Q xs at_ h s t 13 14:=by kernel_rfl
theorem rNm14_vc (Q:ByteArray→Prop)(xs:List Int)(at_:Int)(h:Nat→Int)(s t:ByteArray):rNm14 (Orc.t Orc.z) Q xs at_ h s t=rNmT Q xs at_ h s t 14 15:=by kernel_rfl
theorem rNm15_vc (Q:ByteArray→Prop)(xs:List Int)(at_:Int)(h:Nat→Int)(s t:ByteArray):rNm15 (Orc.t Orc.z) Q xs at_ h s t=rNmT Q xs at_ h s t 15 16:=by kernel_rfl
theorem rNm16_vc (Q:ByteArray→Prop)(xs:List Int)(at_:Int)(h:Nat→Int)(s t:ByteArray):rNm16 (Orc.t Orc.z) Q xs at_ h s t=rNmT Q xs at_ h s t 16 17:=by kernel_rfl
theorem rNm17_vc (Q:ByteArray→Prop)(xs:List Int)(at_:Int)(h:Nat→Int)(s t:ByteArray):rNm17 (Orc.t Orc.z) Q xs at_ h s t=rNmT Q xs at_ h s t 17 18:=by kernel_rfl
theorem rNm18_vc (Q:ByteArray→Prop)(xs:List Int)(at_:Int)(h:Nat→Int)(s t:ByteArray):rNm18 (Orc.t Orc.z) Q xs at_ h s t=rNmT Q xs at_ h s t 18 19:=by kernel_rfl
theorem rNm19_vc (Q:ByteArray→Prop)(xs:List Int)(at_:Int)(h:Nat→Int)(s t:ByteArray):rNm19 (Orc.t Orc.z) Q xs at_ h s t=rNmT Q xs at_ h s t 19 20:=by kernel_rfl
theorem rNm20_vc (Q:ByteArray→Prop)(xs:List Int)(at_:Int)(h:Nat→Int)(s t:ByteArray):rNm20 (Orc.t Orc.z) Q xs at_ h s t=rNmT Q xs at_ h s t 20 21:=by kernel_rfl
theorem rNm21_vc (Q:ByteArray→Prop)(xs:List Int)(at_:Int)(h:Nat→Int)(s t:ByteArray):rNm21 (Orc.t Orc.z) Q xs at_ h s t=rNmT Q xs at_ h s t 21 22:=by kernel_rfl
theorem rNm22_vc (Q:ByteArray→Prop)(xs:List Int)(at_:Int)(h:Nat→Int)(s t:ByteArray):rNm22 (Orc.t Orc.z) Q xs at_ h s t=rNmT Q xs at_ h s t 22 23:=by kernel_rfl
theorem rNm23_vc (Q:ByteArray→Prop)(xs:List Int)(at_:Int)(h:Nat→Int)(s t:ByteArray):rNm23 (Orc.t Orc.z) Q xs at_ h s t=rNmT Q xs at_ h s t 23 24:=by kernel_rfl
theorem rNm24_vc (Q:ByteArray→Prop)(xs:List Int)(at_:Int)(h:Nat→Int)(s t:ByteArray):rNm24 (Orc.t Orc.z) Q xs at_ h s t=rNmT Q xs at_ h s t 24 25:=by kernel_rfl
theorem rNm25_vc (Q:ByteArray→Prop)(xs:List Int)(at_:Int)(h:Nat→Int)(s t:ByteArray):rNm25 (Orc.t Orc.z) Q xs at_ h s t=rNmT Q xs at_ h s t 25 26:=by kernel_rfl
theorem rNm26_vc (Q:ByteArray→Prop)(xs:List Int)(at_:Int)(h:Nat→Int)(s t:ByteArray):rNm26 (Orc.t Orc.z) Q xs at_ h s t=rNmT Q xs at_ h s t 26 27:=by kernel_rfl
theorem rNm27_vc (Q:ByteArray→Prop)(xs:List Int)(at_:Int)(h:Nat→Int)(s t:ByteArray):rNm27 (Orc.t Orc.z) Q xs at_ h s t=rNmT Q xs at_ h s t 27 28:=by kernel_rfl
theorem rNm28_vc (Q:ByteArray→Prop)(xs:List Int)(at_:Int)(h:Nat→Int)(s t:ByteArray):rNm28 (Orc.t Orc.z) Q xs at_ h s t=rNmT Q xs at_ h s t 28 29:=by kernel_rfl
theorem rNm29_vc (Q:ByteArray→Prop)(xs:List Int)(at_:Int)(h:Nat→Int)(s t:ByteArray):rNm29 (Orc.t Orc.z) Q xs at_ h s t=rNmT Q xs at_ h s t 29 30:=by kernel_rfl
theorem rNm30_vc (Q:ByteArray→Prop)(xs:List Int)(at_:Int)(h:Nat→Int)(s t:ByteArray):rNm30 (Orc.t Orc.z) Q xs at_ h s t=rNmT Q xs at_ h s t 30 31:=by kernel_rfl
theorem rNm31_vc (Q:ByteArray→Prop)(xs:List Int)(at_:Int)(h:Nat→Int)(s t:ByteArray):rNm31 (Orc.t Orc.z) Q xs at_ h s t=rNmT Q xs at_ h s t 31 32:=by kernel_rfl
theorem rNm32_vc (Q:ByteArray→Prop)(xs:List Int)(at_:Int)(h:Nat→Int)(s t:ByteArray):rNm32 (Orc.f Orc.z) Q xs at_ h s t=(let z1:=(AV.tup [AV.ptr 1048578 [1,0] 0 0,s0 s]); Nf (Ex.exit 0=Ex.exit 0∧Wk z1 z1∧SameH (hpL (qVM30 h xs at_)) (hpL (qVM30 h xs at_)))):=by kernel_rfl
end Go.Proofs.YtpofhijgccocpaaGreatDoor
end
section
namespace Go.Proofs.YtpofhijgccocpaaGreatDoor
open Go.AS Go.TP
noncomputable section
def hiB (x:Int):ByteArray:=ByteArray.extract digs (Int.toNat (Option.getD (some (IntKind.wrap IntKind.u8 (Int.tdiv x (16:Int)))) (0:Int))) (Int.toNat (Option.getD (some (IntKind.wrap IntKind.u8 (IntKind.wrap IntKind.u8 (Int.tdiv x (16:Int))+(1:Int)))) (16:Int)))
def loB (x:Int):ByteArray:=ByteArray.extract digs (Int.toNat (Option.getD (some (Int.tmod x (16:Int))) (0:Int))) (Int.toNat (Option.getD (some (IntKind.wrap IntKind.u8 (Int.tmod x (16:Int)+(1:Int)))) (16:Int)))
theorem hi_n {x:Int}(h:0≤x∧x<256):IntKind.wrap IntKind.u8 (Int.tdiv x 16)=x / 16:=by
 rw [wrap_u8,Int.tdiv_eq_ediv_of_nonneg h.1]; omega
theorem hi_m {x:Int}(h:0≤x∧x<256):IntKind.wrap IntKind.u8 (IntKind.wrap IntKind.u8 (Int.tdiv x 16)+1)=x / 16+1:=by
 rw [hi_n h,wrap_u8]; omega
theorem lo_n {x:Int}(h:0≤x∧x<256):Int.tmod x 16=x % 16:=Int.tmod_eq_emod_of_nonneg h.1
theorem lo_m {x:Int}(h:0≤x∧x<256):IntKind.wrap IntKind.u8 (Int.tmod x 16+1)=x % 16+1:=by
 rw [lo_n h,wrap_u8]; omega
theorem hi_ok {x:Int}(h:0≤x∧x<256):decide ((0:Int)≤Option.getD (some (IntKind.wrap IntKind.u8 (Int.tdiv x (16:Int)))) (0:Int)∧Option.getD (some (IntKind.wrap IntKind.u8 (Int.tdiv x (16:Int)))) (0:Int)≤Option.getD (some (IntKind.wrap IntKind.u8 (IntKind.wrap IntKind.u8 (Int.tdiv x (16:Int))+(1:Int)))) (16:Int)∧Option.getD (some (IntKind.wrap IntKind.u8 (IntKind.wrap IntKind.u8 (Int.tdiv x (16:Int))+(1:Int)))) (16:Int)≤(16:Int)∧false=false)=true:=by
 rw [hi_m h,hi_n h,Option.getD_some,Option.getD_some,decide_eq_true_iff]
 exact ⟨by omega,by omega,by omega,rfl⟩
theorem lo_ok {x:Int}(h:0≤x∧x<256):decide ((0:Int)≤Option.getD (some (Int.tmod x (16:Int))) (0:Int)∧Option.getD (some (Int.tmod x (16:Int))) (0:Int)≤Option.getD (some (IntKind.wrap IntKind.u8 (Int.tmod x (16:Int)+(1:Int)))) (16:Int)∧Option.getD (some (IntKind.wrap IntKind.u8 (Int.tmod x (16:Int)+(1:Int)))) (16:Int)≤(16:Int)∧false=false)=true:=by
 rw [lo_m h,lo_n h,Option.getD_some,Option.getD_some,decide_eq_true_iff]
 exact ⟨by omega,by omega,by omega,rfl⟩
theorem digs_size:digs.size=16:=rfl
theorem hi_size {x:Int}(h:0≤x∧x<256):(hiB x).size=1:=by
 unfold hiB
 rw [hi_m h,hi_n h,Option.getD_some,Option.getD_some,ByteArray.size_extract,digs_size]; omega
theorem lo_size {x:Int}(h:0≤x∧x<256):(loB x).size=1:=by
 unfold loB
 rw [lo_m h,lo_n h,Option.getD_some,Option.getD_some,ByteArray.size_extract,digs_size]; omega
theorem sz_ok {s t:ByteArray}{n:Nat}(hs:s.size=n)(ht:t.size=1)(hn:n≤100):decide (s.size+t.size≤9223372036854775807)=true:=decide_eq_true (by omega)
def nxt (s:ByteArray)(x:Int):ByteArray:=s++hiB x++loB x
theorem sz1 {s:ByteArray}{n:Nat}{x:Int}(hs:s.size=n)(h:0≤x∧x<256):(s++hiB x).size=n+1:=by rw [ByteArray.size_append,hi_size h,hs]
theorem nxt_size {s:ByteArray}{n:Nat}{x:Int}(hs:s.size=n)(h:0≤x∧x<256):(nxt s x).size=n+2:=by unfold nxt; rw [ByteArray.size_append,lo_size h,sz1 hs h]
abbrev BNm (xs:List Int)(at_:Int)(h:Nat→Int)(s:ByteArray)(i:Int)(t:ByteArray):Prop:=BlkOk Tryz.prog gl0 (fn fMName).ntmps (loopAt (code fMName) 0) [0,3,4,5,6] (fun _=>[0,4]) (nArgs s i) (nHeap xs at_ h) fun _ q=>q=nOut xs at_ h t
abbrev nmSpl (Q:ByteArray→Prop)(xs:List Int)(at_:Int)(h:Nat→Int)(i:Int)(t:ByteArray):Spl:=⟨ByteArray,fun s=>Q s,fun s=>nArgs s i,fun _=>nHeap xs at_ h,fun _=>nOut xs at_ h t⟩
attribute [local irreducible] runL in
set_option maxRecDepth 100000 in
theorem nmRound {os:Orc}{Q:ByteArray→Prop}{xs:List Int}{at_:Int}{h:Nat→Int}{s t:ByteArray}{i j:Int}(ih:∀ s',Q s'→BNm xs at_ h s' j t)(g:rNm os Q xs at_ h s i j t):BNm xs at_ h s i t :=
 lp_round (X:=XB.ask [fMName]) (XB_ok.ask _) (f:=fMName) (fn:=fn fMName) (code:=code fMName) (fnOk fMName (by kernel_rfl)) (show (fn fMName).body=some (code fMName) by kernel_rfl) (L:=lpNm Q xs at_ h j (nOut xs at_ h t)) (L':=lpNm Q xs at_ h j (nOut xs at_ h t)) (l:=[nmSpl Q xs at_ h j t]) rfl (show ([0,3,4,5,6]:List Nat).Nodup by decide)
  (fun s' hs' q hq=>by obtain rfl:=List.mem_singleton.1 hs'; exact ih q hq) g
attribute [local irreducible] runL in
theorem nm32 (xs:List Int)(at_:Int)(h:Nat→Int)(s:ByteArray)(hs:s.size=64):∃ t,t.size=64∧BNm xs at_ h s 32 t:=by
 refine ⟨s,hs,nmRound (Q:=fun _=>False) (os:=Orc.f Orc.z) (j:=33) (fun _ h=>h.elim) ?_⟩
 show rNm32 (Orc.f Orc.z) (fun _=>False) xs at_ h s s
 rw [rNm32_vc]
 exact ⟨rfl,rfl, .refl _, .rfl⟩
attribute [local irreducible] runL in
theorem nm31 (xs:List Int)(at_:Int)(h:Nat→Int)(hh:∀ k,0≤h k∧h k<256)(s:ByteArray)(hs:s.size=62):∃ t,t.size=64∧BNm xs at_ h s 31 t:=by
 obtain ⟨t,ht,hB⟩:=nm32 xs at_ h (nxt s (h 31)) (nxt_size hs (hh 31))
 refine ⟨t,ht,nmRound (Q:=fun s'=>s'=nxt s (h 31)) (os:=Orc.t Orc.z) (j:=32) (fun s' e=>by rw [e]; exact hB) ?_⟩
 show rNm31 (Orc.t Orc.z) (fun s'=>s'=nxt s (h 31)) xs at_ h s t
 rw [rNm31_vc]
 exact ⟨rfl,rfl,rfl,rfl,hi_ok (hh 31),sz_ok hs (hi_size (hh 31)) (by decide),rfl,rfl,rfl,lo_ok (hh 31),sz_ok (sz1 hs (hh 31)) (lo_size (hh 31)) (by decide),rfl,nxt s (h 31),⟨rfl, .refl _,rfl⟩,rfl, .refl _, .rfl⟩
attribute [local irreducible] runL in
theorem nm30 (xs:List Int)(at_:Int)(h:Nat→Int)(hh:∀ k,0≤h k∧h k<256)(s:ByteArray)(hs:s.size=60):∃ t,t.size=64∧BNm xs at_ h s 30 t:=by
 obtain ⟨t,ht,hB⟩:=nm31 xs at_ h hh (nxt s (h 30)) (nxt_size hs (hh 30))
 refine ⟨t,ht,nmRound (Q:=fun s'=>s'=nxt s (h 30)) (os:=Orc.t Orc.z) (j:=31) (fun s' e=>by rw [e]; exact hB) ?_⟩
 show rNm30 (Orc.t Orc.z) (fun s'=>s'=nxt s (h 30)) xs at_ h s t
 rw [rNm30_vc]
 exact ⟨rfl,rfl,rfl,rfl,hi_ok (hh 30),sz_ok hs (hi_size (hh 30)) (by decide),rfl,rfl,rfl,lo_ok (hh 30),sz_ok (sz1 hs (hh 30)) (lo_size (hh 30)) (by decide),rfl,nxt s (h 30),⟨rfl, .refl _,rfl⟩,rfl, .refl _, .rfl⟩
attribute [local irreducible] runL in
theorem nm29 (xs:List Int)(at_:Int)(h:Nat→Int)(hh:∀ k,0≤h k∧h k<256)(s:ByteArray)(hs:s.size=58):∃ t,t.size=64∧BNm xs at_ h s 29 t:=by
 obtain ⟨t,ht,hB⟩:=nm30 xs at_ h hh (nxt s (h 29)) (nxt_size hs (hh 29))
 refine ⟨t,ht,nmRound (Q:=fun s'=>s'=nxt s (h 29)) (os:=Orc.t Orc.z) (j:=30) (fun s' e=>by rw [e]; exact hB) ?_⟩
 show rNm29 (Orc.t Orc.z) (fun s'=>s'=nxt s (h 29)) xs at_ h s t
 rw [rNm29_vc]
 exact ⟨rfl,rfl,rfl,rfl,hi_ok (hh 29),sz_ok hs (hi_size (hh 29)) (by decide),rfl,rfl,rfl,lo_ok (hh 29),sz_ok (sz1 hs (hh 29)) (lo_size (hh 29)) (by decide),rfl,nxt s (h 29),⟨rfl, .refl _,rfl⟩,rfl, .refl _, .rfl⟩
attribute [local irreducible] runL in
theorem nm28 (xs:List Int)(at_:Int)(h:Nat→Int)(hh:∀ k,0≤h k∧h k<256)(s:ByteArray)(hs:s.size=56):∃ t,t.size=64∧BNm xs at_ h s 28 t:=by
 obtain ⟨t,ht,hB⟩:=nm29 xs at_ h hh (nxt s (h 28)) (nxt_size hs (hh 28))
 refine ⟨t,ht,nmRound (Q:=fun s'=>s'=nxt s (h 28)) (os:=Orc.t Orc.z) (j:=29) (fun s' e=>by rw [e]; exact hB) ?_⟩
 show rNm28 (Orc.t Orc.z) (fun s'=>s'=nxt s (h 28)) xs at_ h s t
 rw [rNm28_vc]
 exact ⟨rfl,rfl,rfl,rfl,hi_ok (hh 28),sz_ok hs (hi_size (hh 28)) (by decide),rfl,rfl,rfl,lo_ok (hh 28),sz_ok (sz1 hs (hh 28)) (lo_size (hh 28)) (by decide),rfl,nxt s (h 28),⟨rfl, .refl _,rfl⟩,rfl, .refl _, .rfl⟩
attribute [local irreducible] runL in
theorem nm27 (xs:List Int)(at_:Int)(h:Nat→Int)(hh:∀ k,0≤h k∧h k<256)(s:ByteArray)(hs:s.size=54):∃ t,t.size=64∧BNm xs at_ h s 27 t:=by
 obtain ⟨t,ht,hB⟩:=nm28 xs at_ h hh (nxt s (h 27)) (nxt_size hs (hh 27))
 refine ⟨t,ht,nmRound (Q:=fun s'=>s'=nxt s (h 27)) (os:=Orc.t Orc.z) (j:=28) (fun s' e=>by rw [e]; exact hB) ?_⟩
 show rNm27 (Orc.t Orc.z) (fun s'=>s'=nxt s (h 27)) xs at_ h s t
 rw [rNm27_vc]
 exact ⟨rfl,rfl,rfl,rfl,hi_ok (hh 27),sz_ok hs (hi_size (hh 27)) (by decide),rfl,rfl,rfl,lo_ok (hh 27),sz_ok (sz1 hs (hh 27)) (lo_size (hh 27)) (by decide),rfl,nxt s (h 27),⟨rfl, .refl _,rfl⟩,rfl, .refl _, .rfl⟩
attribute [local irreducible] runL in
theorem nm26 (xs:List Int)(at_:Int)(h:Nat→Int)(hh:∀ k,0≤h k∧h k<256)(s:ByteArray)(hs:s.size=52):∃ t,t.size=64∧BNm xs at_ h s 26 t:=by
 obtain ⟨t,ht,hB⟩:=nm27 xs at_ h hh (nxt s (h 26)) (nxt_size hs (hh 26))
 refine ⟨t,ht,nmRound (Q:=fun s'=>s'=nxt s (h 26)) (os:=Orc.t Orc.z) (j:=27) (fun s' e=>by rw [e]; exact hB) ?_⟩
 show rNm26 (Orc.t Orc.z) (fun s'=>s'=nxt s (h 26)) xs at_ h s t
 rw [rNm26_vc]
 exact ⟨rfl,rfl,rfl,rfl,hi_ok (hh 26),sz_ok hs (hi_size (hh 26)) (by decide),rfl,rfl,rfl,lo_ok (hh 26),sz_ok (sz1 hs (hh 26)) (lo_size (hh 26)) (by decide),rfl,nxt s (h 26),⟨rfl, .refl _,rfl⟩,rfl, .refl _, .rfl⟩
attribute [local irreducible] runL in
theorem nm25 (xs:List Int)(at_:Int)(h:Nat→Int)(hh:∀ k,0≤h k∧h k<256)(s:ByteArray)(hs:s.size=50):∃ t,t.size=64∧BNm xs at_ h s 25 t:=by
 obtain ⟨t,ht,hB⟩:=nm26 xs at_ h hh (nxt s (h 25)) (nxt_size hs (hh 25))
 refine ⟨t,ht,nmRound (Q:=fun s'=>s'=nxt s (h 25)) (os:=Orc.t Orc.z) (j:=26) (fun s' e=>by rw [e]; exact hB) ?_⟩
 show rNm25 (Orc.t Orc.z) (fun s'=>s'=nxt s (h 25)) xs at_ h s t
 rw [rNm25_vc]
 exact ⟨rfl,rfl,rfl,rfl,hi_ok (hh 25),sz_ok hs (hi_size (hh 25)) (by decide),rfl,rfl,rfl,lo_ok (hh 25),sz_ok (sz1 hs (hh 25)) (lo_size (hh 25)) (by decide),rfl,nxt s (h 25),⟨rfl, .refl _,rfl⟩,rfl, .refl _, .rfl⟩
attribute [local irreducible] runL in
theorem nm24 (xs:List Int)(at_:Int)(h:Nat→Int)(hh:∀ k,0≤h k∧h k<256)(s:ByteArray)(hs:s.size=48):∃ t,t.size=64∧BNm xs at_ h s 24 t:=by
 obtain ⟨t,ht,hB⟩:=nm25 xs at_ h hh (nxt s (h 24)) (nxt_size hs (hh 24))
 refine ⟨t,ht,nmRound (Q:=fun s'=>s'=nxt s (h 24)) (os:=Orc.t Orc.z) (j:=25) (fun s' e=>by rw [e]; exact hB) ?_⟩
 show rNm24 (Orc.t Orc.z) (fun s'=>s'=nxt s (h 24)) xs at_ h s t
 rw [rNm24_vc]
 exact ⟨rfl,rfl,rfl,rfl,hi_ok (hh 24),sz_ok hs (hi_size (hh 24)) (by decide),rfl,rfl,rfl,lo_ok (hh 24),sz_ok (sz1 hs (hh 24)) (lo_size (hh 24)) (by decide),rfl,nxt s (h 24),⟨rfl, .refl _,rfl⟩,rfl, .refl _, .rfl⟩
attribute [local irreducible] runL in
theorem nm23 (xs:List Int)(at_:Int)(h:Nat→Int)(hh:∀ k,0≤h k∧h k<256)(s:ByteArray)(hs:s.size=46):∃ t,t.size=64∧BNm xs at_ h s 23 t:=by
 obtain ⟨t,ht,hB⟩:=nm24 xs at_ h hh (nxt s (h 23)) (nxt_size hs (hh 23))
 refine ⟨t,ht,nmRound (Q:=fun s'=>s'=nxt s (h 23)) (os:=Orc.t Orc.z) (j:=24) (fun s' e=>by rw [e]; exact hB) ?_⟩
 show rNm23 (Orc.t Orc.z) (fun s'=>s'=nxt s (h 23)) xs at_ h s t
 rw [rNm23_vc]
 exact ⟨rfl,rfl,rfl,rfl,hi_ok (hh 23),sz_ok hs (hi_size (hh 23)) (by decide),rfl,rfl,rfl,lo_ok (hh 23),sz_ok (sz1 hs (hh 23)) (lo_size (hh 23)) (by decide),rfl,nxt s (h 23),⟨rfl, .refl _,rfl⟩,rfl, .refl _, .rfl⟩
attribute [local irreducible] runL in
theorem nm22 (xs:List Int)(at_:Int)(h:Nat→Int)(hh:∀ k,0≤h k∧h k<256)(s:ByteArray)(hs:s.size=44):∃ t,t.size=64∧BNm xs at_ h s 22 t:=by
 obtain ⟨t,ht,hB⟩:=nm23 xs at_ h hh (nxt s (h 22)) (nxt_size hs (hh 22))
 refine ⟨t,ht,nmRound (Q:=fun s'=>s'=nxt s (h 22)) (os:=Orc.t Orc.z) (j:=23) (fun s' e=>by rw [e]; exact hB) ?_⟩
 show rNm22 (Orc.t Orc.z) (fun s'=>s'=nxt s (h 22)) xs at_ h s t
 rw [rNm22_vc]
 exact ⟨rfl,rfl,rfl,rfl,hi_ok (hh 22),sz_ok hs (hi_size (hh 22)) (by decide),rfl,rfl,rfl,lo_ok (hh 22),sz_ok (sz1 hs (hh 22)) (lo_size (hh 22)) (by decide),rfl,nxt s (h 22),⟨rfl, .refl _,rfl⟩,rfl, .refl _, .rfl⟩
attribute [local irreducible] runL in
theorem nm21 (xs:List Int)(at_:Int)(h:Nat→Int)(hh:∀ k,0≤h k∧h k<256)(s:ByteArray)(hs:s.size=42):∃ t,t.size=64∧BNm xs at_ h s 21 t:=by
 obtain ⟨t,ht,hB⟩:=nm22 xs at_ h hh (nxt s (h 21)) (nxt_size hs (hh 21))
 refine ⟨t,ht,nmRound (Q:=fun s'=>s'=nxt s (h 21)) (os:=Orc.t Orc.z) (j:=22) (fun s' e=>by rw [e]; exact hB) ?_⟩
 show rNm21 (Orc.t Orc.z) (fun s'=>s'=nxt s (h 21)) xs at_ h s t
 rw [rNm21_vc]
 exact ⟨rfl,rfl,rfl,rfl,hi_ok (hh 21),sz_ok hs (hi_size (hh 21)) (by decide),rfl,rfl,rfl,lo_ok (hh 21),sz_ok (sz1 hs (hh 21)) (lo_size (hh 21)) (by decide),rfl,nxt s (h 21),⟨rfl, .refl _,rfl⟩,rfl, .refl _, .rfl⟩
attribute [local irreducible] runL in
theorem nm20 (xs:List Int)(at_:Int)(h:Nat→Int)(hh:∀ k,0≤h k∧h k<256)(s:ByteArray)(hs:s.size=40):∃ t,t.size=64∧BNm xs at_ h s 20 t:=by
 obtain ⟨t,ht,hB⟩:=nm21 xs at_ h hh (nxt s (h 20)) (nxt_size hs (hh 20))
 refine ⟨t,ht,nmRound (Q:=fun s'=>s'=nxt s (h 20)) (os:=Orc.t Orc.z) (j:=21) (fun s' e=>by rw [e]; exact hB) ?_⟩
 show rNm20 (Orc.t Orc.z) (fun s'=>s'=nxt s (h 20)) xs at_ h s t
 rw [rNm20_vc]
 exact ⟨rfl,rfl,rfl,rfl,hi_ok (hh 20),sz_ok hs (hi_size (hh 20)) (by decide),rfl,rfl,rfl,lo_ok (hh 20),sz_ok (sz1 hs (hh 20)) (lo_size (hh 20)) (by decide),rfl,nxt s (h 20),⟨rfl, .refl _,rfl⟩,rfl, .refl _, .rfl⟩
attribute [local irreducible] runL in
theorem nm19 (xs:List Int)(at_:Int)(h:Nat→Int)(hh:∀ k,0≤h k∧h k<256)(s:ByteArray)(hs:s.size=38):∃ t,t.size=64∧BNm xs at_ h s 19 t:=by
 obtain ⟨t,ht,hB⟩:=nm20 xs at_ h hh (nxt s (h 19)) (nxt_size hs (hh 19))
 refine ⟨t,ht,nmRound (Q:=fun s'=>s'=nxt s (h 19)) (os:=Orc.t Orc.z) (j:=20) (fun s' e=>by rw [e]; exact hB) ?_⟩
 show rNm19 (Orc.t Orc.z) (fun s'=>s'=nxt s (h 19)) xs at_ h s t
 rw [rNm19_vc]
 exact ⟨rfl,rfl,rfl,rfl,hi_ok (hh 19),sz_ok hs (hi_size (hh 19)) (by decide),rfl,rfl,rfl,lo_ok (hh 19),sz_ok (sz1 hs (hh 19)) (lo_size (hh 19)) (by decide),rfl,nxt s (h 19),⟨rfl, .refl _,rfl⟩,rfl, .refl _, .rfl⟩
attribute [local irreducible] runL in
theorem nm18 (xs:List Int)(at_:Int)(h:Nat→Int)(hh:∀ k,0≤h k∧h k<256)(s:ByteArray)(hs:s.size=36):∃ t,t.size=64∧BNm xs at_ h s 18 t:=by
 obtain ⟨t,ht,hB⟩:=nm19 xs at_ h hh (nxt s (h 18)) (nxt_size hs (hh 18))
 refine ⟨t,ht,nmRound (Q:=fun s'=>s'=nxt s (h 18)) (os:=Orc.t Orc.z) (j:=19) (fun s' e=>by rw [e]; exact hB) ?_⟩
 show rNm18 (Orc.t Orc.z) (fun s'=>s'=nxt s (h 18)) xs at_ h s t
 rw [rNm18_vc]
 exact ⟨rfl,rfl,rfl,rfl,hi_ok (hh 18),sz_ok hs (hi_size (hh 18)) (by decide),rfl,rfl,rfl,lo_ok (hh 18),sz_ok (sz1 hs (hh 18)) (lo_size (hh 18)) (by decide),rfl,nxt s (h 18),⟨rfl, .refl _,rfl⟩,rfl, .refl _, .rfl⟩
attribute [local irreducible] runL in
theorem nm17 (xs:List Int)(at_:Int)(h:Nat→Int)(hh:∀ k,0≤h k∧h k<256)(s:ByteArray)(hs:s.size=34):∃ t,t.size=64∧BNm xs at_ h s 17 t:=by
 obtain ⟨t,ht,hB⟩:=nm18 xs at_ h hh (nxt s (h 17)) (nxt_size hs (hh 17))
 refine ⟨t,ht,nmRound (Q:=fun s'=>s'=nxt s (h 17)) (os:=Orc.t Orc.z) (j:=18) (fun s' e=>by rw [e]; exact hB) ?_⟩
 show rNm17 (Orc.t Orc.z) (fun s'=>s'=nxt s (h 17)) xs at_ h s t
 rw [rNm17_vc]
 exact ⟨rfl,rfl,rfl,rfl,hi_ok (hh 17),sz_ok hs (hi_size (hh 17)) (by decide),rfl,rfl,rfl,lo_ok (hh 17),sz_ok (sz1 hs (hh 17)) (lo_size (hh 17)) (by decide),rfl,nxt s (h 17),⟨rfl, .refl _,rfl⟩,rfl, .refl _, .rfl⟩
attribute [local irreducible] runL in
theorem nm16 (xs:List Int)(at_:Int)(h:Nat→Int)(hh:∀ k,0≤h k∧h k<256)(s:ByteArray)(hs:s.size=32):∃ t,t.size=64∧BNm xs at_ h s 16 t:=by
 obtain ⟨t,ht,hB⟩:=nm17 xs at_ h hh (nxt s (h 16)) (nxt_size hs (hh 16))
 refine ⟨t,ht,nmRound (Q:=fun s'=>s'=nxt s (h 16)) (os:=Orc.t Orc.z) (j:=17) (fun s' e=>by rw [e]; exact hB) ?_⟩
 show rNm16 (Orc.t Orc.z) (fun s'=>s'=nxt s (h 16)) xs at_ h s t
 rw [rNm16_vc]
 exact ⟨rfl,rfl,rfl,rfl,hi_ok (hh 16),sz_ok hs (hi_size (hh 16)) (by decide),rfl,rfl,rfl,lo_ok (hh 16),sz_ok (sz1 hs (hh 16)) (lo_size (hh 16)) (by decide),rfl,nxt s (h 16),⟨rfl, .refl _,rfl⟩,rfl, .refl _, .rfl⟩
attribute [local irreducible] runL in
theorem nm15 (xs:List Int)(at_:Int)(h:Nat→Int)(hh:∀ k,0≤h k∧h k<256)(s:ByteArray)(hs:s.size=30):∃ t,t.size=64∧BNm xs at_ h s 15 t:=by
 obtain ⟨t,ht,hB⟩:=nm16 xs at_ h hh (nxt s (h 15)) (nxt_size hs (hh 15))
 refine ⟨t,ht,nmRound (Q:=fun s'=>s'=nxt s (h 15)) (os:=Orc.t Orc.z) (j:=16) (fun s' e=>by rw [e]; exact hB) ?_⟩
 show rNm15 (Orc.t Orc.z) (fun s'=>s'=nxt s (h 15)) xs at_ h s t
 rw [rNm15_vc]
 exact ⟨rfl,rfl,rfl,rfl,hi_ok (hh 15),sz_ok hs (hi_size (hh 15)) (by decide),rfl,rfl,rfl,lo_ok (hh 15),sz_ok (sz1 hs (hh 15)) (lo_size (hh 15)) (by decide),rfl,nxt s (h 15),⟨rfl, .refl _,rfl⟩,rfl, .refl _, .rfl⟩
attribute [local irreducible] runL in
theorem nm14 (xs:List Int)(at_:Int)(h:Nat→Int)(hh:∀ k,0≤h k∧h k<256)(s:ByteArray)(hs:s.size=28):∃ t,t.size=64∧BNm xs at_ h s 14 t:=by
 obtain ⟨t,ht,hB⟩:=nm15 xs at_ h hh (nxt s (h 14)) (nxt_size hs (hh 14))
 refine ⟨t,ht,nmRound (Q:=fun s'=>s'=nxt s (h 14)) (os:=Orc.t Orc.z) (j:=15) (fun s' e=>by rw [e]; exact hB) ?_⟩
 show rNm14 (Orc.t Orc.z) (fun s'=>s'=nxt s (h 14)) xs at_ h s t
 rw [rNm14_vc]
 exact ⟨rfl,rfl,rfl,rfl,hi_ok (hh 14),sz_ok hs (hi_size (hh 14)) (by decide),rfl,rfl,rfl,lo_ok (hh 14),sz_ok (sz1 hs (hh 14)) (lo_size (hh 14)) (by decide),rfl,nxt s (h 14),⟨rfl, .refl _,rfl⟩,rfl, .refl _, .rfl⟩
attribute [local irreducible] runL in
theorem nm13 (xs:List Int)(at_:Int)(h:Nat→Int)(hh:∀ k,0≤h k∧h k<256)(s:ByteArray)(hs:s.size=26):∃ t,t.size=64∧BNm xs at_ h s 13 t:=by
 obtain ⟨t,ht,hB⟩:=nm14 xs at_ h hh (nxt s (h 13)) (nxt_size hs (hh 13))
 refine ⟨t,ht,nmRound (Q:=fun s'=>s'=nxt s (h 13)) (os:=Orc.t Orc.z) (j:=14) (fun s' e=>by rw [e]; exact hB) ?_⟩
 show rNm13 (Orc.t Orc.z) (fun s'=>s'=nxt s (h 13)) xs at_ h s t
 rw [rNm13_vc]
 exact ⟨rfl,rfl,rfl,rfl,hi_ok (hh 13),sz_ok hs (hi_size (hh 13)) (by decide),rfl,rfl,rfl,lo_ok (hh 13),sz_ok (sz1 hs (hh 13)) (lo_size (hh 13)) (by decide),rfl,nxt s (h 13),⟨rfl, .refl _,rfl⟩,rfl, .refl _, .rfl⟩
attribute [local irreducible] runL in
theorem nm12 (xs:List Int)(at_:Int)(h:Nat→Int)(hh:∀ k,0≤h k∧h k<256)(s:ByteArray)(hs:s.size=24):∃ t,t.size=64∧BNm xs at_ h s 12 t:=by
 obtain ⟨t,ht,hB⟩:=nm13 xs at_ h hh (nxt s (h 12)) (nxt_size hs (hh 12))
 refine ⟨t,ht,nmRound (Q:=fun s'=>s'=nxt s (h 12)) (os:=Orc.t Orc.z) (j:=13) (fun s' e=>by rw [e]; exact hB) ?_⟩
 show rNm12 (Orc.t Orc.z) (fun s'=>s'=nxt s (h 12)) xs at_ h s t
 rw [rNm12_vc]
 exact ⟨rfl,rfl,rfl,rfl,hi_ok (hh 12),sz_ok hs (hi_size (hh 12)) (by decide),rfl,rfl,rfl,lo_ok (hh 12),sz_ok (sz1 hs (hh 12)) (lo_size (hh 12)) (by decide),rfl,nxt s (h 12),⟨rfl, .refl _,rfl⟩,rfl, .refl _, .rfl⟩
attribute [local irreducible] runL in
theorem nm11 (xs:List Int)(at_:Int)(h:Nat→Int)(hh:∀ k,0≤h k∧h k<256)(s:ByteArray)(hs:s.size=22):∃ t,t.size=64∧BNm xs at_ h s 11 t:=by
 obtain ⟨t,ht,hB⟩:=nm12 xs at_ h hh (nxt s (h 11)) (nxt_size hs (hh 11))
 refine ⟨t,ht,nmRound (Q:=fun s'=>s'=nxt s (h 11)) (os:=Orc.t Orc.z) (j:=12) (fun s' e=>by rw [e]; exact hB) ?_⟩
 show rNm11 (Orc.t Orc.z) (fun s'=>s'=nxt s (h 11)) xs at_ h s t
 rw [rNm11_vc]
 exact ⟨rfl,rfl,rfl,rfl,hi_ok (hh 11),sz_ok hs (hi_size (hh 11)) (by decide),rfl,rfl,rfl,lo_ok (hh 11),sz_ok (sz1 hs (hh 11)) (lo_size (hh 11)) (by decide),rfl,nxt s (h 11),⟨rfl, .refl _,rfl⟩,rfl, .refl _, .rfl⟩
attribute [local irreducible] runL in
theorem nm10 (xs:List Int)(at_:Int)(h:Nat→Int)(hh:∀ k,0≤h k∧h k<256)(s:ByteArray)(hs:s.size=20):∃ t,t.size=64∧BNm xs at_ h s 10 t:=by
 obtain ⟨t,ht,hB⟩:=nm11 xs at_ h hh (nxt s (h 10)) (nxt_size hs (hh 10))
 refine ⟨t,ht,nmRound (Q:=fun s'=>s'=nxt s (h 10)) (os:=Orc.t Orc.z) (j:=11) (fun s' e=>by rw [e]; exact hB) ?_⟩
 show rNm10 (Orc.t Orc.z) (fun s'=>s'=nxt s (h 10)) xs at_ h s t
 rw [rNm10_vc]
 exact ⟨rfl,rfl,rfl,rfl,hi_ok (hh 10),sz_ok hs (hi_size (hh 10)) (by decide),rfl,rfl,rfl,lo_ok (hh 10),sz_ok (sz1 hs (hh 10)) (lo_size (hh 10)) (by decide),rfl,nxt s (h 10),⟨rfl, .refl _,rfl⟩,rfl, .refl _, .rfl⟩
attribute [local irreducible] runL in
theorem nm9 (xs:List Int)(at_:Int)(h:Nat→Int)(hh:∀ k,0≤h k∧h k<256)(s:ByteArray)(hs:s.size=18):∃ t,t.size=64∧BNm xs at_ h s 9 t:=by
 obtain ⟨t,ht,hB⟩:=nm10 xs at_ h hh (nxt s (h 9)) (nxt_size hs (hh 9))
 refine ⟨t,ht,nmRound (Q:=fun s'=>s'=nxt s (h 9)) (os:=Orc.t Orc.z) (j:=10) (fun s' e=>by rw [e]; exact hB) ?_⟩
 show rNm9 (Orc.t Orc.z) (fun s'=>s'=nxt s (h 9)) xs at_ h s t
 rw [rNm9_vc]
 exact ⟨rfl,rfl,rfl,rfl,hi_ok (hh 9),sz_ok hs (hi_size (hh 9)) (by decide),rfl,rfl,rfl,lo_ok (hh 9),sz_ok (sz1 hs (hh 9)) (lo_size (hh 9)) (by decide),rfl,nxt s (h 9),⟨rfl, .refl _,rfl⟩,rfl, .refl _, .rfl⟩
attribute [local irreducible] runL in
theorem nm8 (xs:List Int)(at_:Int)(h:Nat→Int)(hh:∀ k,0≤h k∧h k<256)(s:ByteArray)(hs:s.size=16):∃ t,t.size=64∧BNm xs at_ h s 8 t:=by
 obtain ⟨t,ht,hB⟩:=nm9 xs at_ h hh (nxt s (h 8)) (nxt_size hs (hh 8))
 refine ⟨t,ht,nmRound (Q:=fun s'=>s'=nxt s (h 8)) (os:=Orc.t Orc.z) (j:=9) (fun s' e=>by rw [e]; exact hB) ?_⟩
 show rNm8 (Orc.t Orc.z) (fun s'=>s'=nxt s (h 8)) xs at_ h s t
 rw [rNm8_vc]
 exact ⟨rfl,rfl,rfl,rfl,hi_ok (hh 8),sz_ok hs (hi_size (hh 8)) (by decide),rfl,rfl,rfl,lo_ok (hh 8),sz_ok (sz1 hs (hh 8)) (lo_size (hh 8)) (by decide),rfl,nxt s (h 8),⟨rfl, .refl _,rfl⟩,rfl, .refl _, .rfl⟩
attribute [local irreducible] runL in
theorem nm7 (xs:List Int)(at_:Int)(h:Nat→Int)(hh:∀ k,0≤h k∧h k<256)(s:ByteArray)(hs:s.size=14):∃ t,t.size=64∧BNm xs at_ h s 7 t:=by
 obtain ⟨t,ht,hB⟩:=nm8 xs at_ h hh (nxt s (h 7)) (nxt_size hs (hh 7))
 refine ⟨t,ht,nmRound (Q:=fun s'=>s'=nxt s (h 7)) (os:=Orc.t Orc.z) (j:=8) (fun s' e=>by rw [e]; exact hB) ?_⟩
 show rNm7 (Orc.t Orc.z) (fun s'=>s'=nxt s (h 7)) xs at_ h s t
 rw [rNm7_vc]
 exact ⟨rfl,rfl,rfl,rfl,hi_ok (hh 7),sz_ok hs (hi_size (hh 7)) (by decide),rfl,rfl,rfl,lo_ok (hh 7),sz_ok (sz1 hs (hh 7)) (lo_size (hh 7)) (by decide),rfl,nxt s (h 7),⟨rfl, .refl _,rfl⟩,rfl, .refl _, .rfl⟩
attribute [local irreducible] runL in
theorem nm6 (xs:List Int)(at_:Int)(h:Nat→Int)(hh:∀ k,0≤h k∧h k<256)(s:ByteArray)(hs:s.size=12):∃ t,t.size=64∧BNm xs at_ h s 6 t:=by
 obtain ⟨t,ht,hB⟩:=nm7 xs at_ h hh (nxt s (h 6)) (nxt_size hs (hh 6))
 refine ⟨t,ht,nmRound (Q:=fun s'=>s'=nxt s (h 6)) (os:=Orc.t Orc.z) (j:=7) (fun s' e=>by rw [e]; exact hB) ?_⟩
 show rNm6 (Orc.t Orc.z) (fun s'=>s'=nxt s (h 6)) xs at_ h s t
 rw [rNm6_vc]
 exact ⟨rfl,rfl,rfl,rfl,hi_ok (hh 6),sz_ok hs (hi_size (hh 6)) (by decide),rfl,rfl,rfl,lo_ok (hh 6),sz_ok (sz1 hs (hh 6)) (lo_size (hh 6)) (by decide),rfl,nxt s (h 6),⟨rfl, .refl _,rfl⟩,rfl, .refl _, .rfl⟩
attribute [local irreducible] runL in
theorem nm5 (xs:List Int)(at_:Int)(h:Nat→Int)(hh:∀ k,0≤h k∧h k<256)(s:ByteArray)(hs:s.size=10):∃ t,t.size=64∧BNm xs at_ h s 5 t:=by
 obtain ⟨t,ht,hB⟩:=nm6 xs at_ h hh (nxt s (h 5)) (nxt_size hs (hh 5))
 refine ⟨t,ht,nmRound (Q:=fun s'=>s'=nxt s (h 5)) (os:=Orc.t Orc.z) (j:=6) (fun s' e=>by rw [e]; exact hB) ?_⟩
 show rNm5 (Orc.t Orc.z) (fun s'=>s'=nxt s (h 5)) xs at_ h s t
 rw [rNm5_vc]
 exact ⟨rfl,rfl,rfl,rfl,hi_ok (hh 5),sz_ok hs (hi_size (hh 5)) (by decide),rfl,rfl,rfl,lo_ok (hh 5),sz_ok (sz1 hs (hh 5)) (lo_size (hh 5)) (by decide),rfl,nxt s (h 5),⟨rfl, .refl _,rfl⟩,rfl, .refl _, .rfl⟩
attribute [local irreducible] runL in
theorem nm4 (xs:List Int)(at_:Int)(h:Nat→Int)(hh:∀ k,0≤h k∧h k<256)(s:ByteArray)(hs:s.size=8):∃ t,t.size=64∧BNm xs at_ h s 4 t:=by
 obtain ⟨t,ht,hB⟩:=nm5 xs at_ h hh (nxt s (h 4)) (nxt_size hs (hh 4))
 refine ⟨t,ht,nmRound (Q:=fun s'=>s'=nxt s (h 4)) (os:=Orc.t Orc.z) (j:=5) (fun s' e=>by rw [e]; exact hB) ?_⟩
 show rNm4 (Orc.t Orc.z) (fun s'=>s'=nxt s (h 4)) xs at_ h s t
 rw [rNm4_vc]
 exact ⟨rfl,rfl,rfl,rfl,hi_ok (hh 4),sz_ok hs (hi_size (hh 4)) (by decide),rfl,rfl,rfl,lo_ok (hh 4),sz_ok (sz1 hs (hh 4)) (lo_size (hh 4)) (by decide),rfl,nxt s (h 4),⟨rfl, .refl _,rfl⟩,rfl, .refl _, .rfl⟩
attribute [local irreducible] runL in
theorem nm3 (xs:List Int)(at_:Int)(h:Nat→Int)(hh:∀ k,0≤h k∧h k<256)(s:ByteArray)(hs:s.size=6):∃ t,t.size=64∧BNm xs at_ h s 3 t:=by
 obtain ⟨t,ht,hB⟩:=nm4 xs at_ h hh (nxt s (h 3)) (nxt_size hs (hh 3))
 refine ⟨t,ht,nmRound (Q:=fun s'=>s'=nxt s (h 3)) (os:=Orc.t Orc.z) (j:=4) (fun s' e=>by rw [e]; exact hB) ?_⟩
 show rNm3 (Orc.t Orc.z) (fun s'=>s'=nxt s (h 3)) xs at_ h s t
 rw [rNm3_vc]
 exact ⟨rfl,rfl,rfl,rfl,hi_ok (hh 3),sz_ok hs (hi_size (hh 3)) (by decide),rfl,rfl,rfl,lo_ok (hh 3),sz_ok (sz1 hs (hh 3)) (lo_size (hh 3)) (by decide),rfl,nxt s (h 3),⟨rfl, .refl _,rfl⟩,rfl, .refl _, .rfl⟩
attribute [local irreducible] runL in
theorem nm2 (xs:List Int)(at_:Int)(h:Nat→Int)(hh:∀ k,0≤h k∧h k<256)(s:ByteArray)(hs:s.size=4):∃ t,t.size=64∧BNm xs at_ h s 2 t:=by
 obtain ⟨t,ht,hB⟩:=nm3 xs at_ h hh (nxt s (h 2)) (nxt_size hs (hh 2))
 refine ⟨t,ht,nmRound (Q:=fun s'=>s'=nxt s (h 2)) (os:=Orc.t Orc.z) (j:=3) (fun s' e=>by rw [e]; exact hB) ?_⟩
 show rNm2 (Orc.t Orc.z) (fun s'=>s'=nxt s (h 2)) xs at_ h s t
 rw [rNm2_vc]
 exact ⟨rfl,rfl,rfl,rfl,hi_ok (hh 2),sz_ok hs (hi_size (hh 2)) (by decide),rfl,rfl,rfl,lo_ok (hh 2),sz_ok (sz1 hs (hh 2)) (lo_size (hh 2)) (by decide),rfl,nxt s (h 2),⟨rfl, .refl _,rfl⟩,rfl, .refl _, .rfl⟩
end
end Go.Proofs.YtpofhijgccocpaaGreatDoor
end
section
namespace Go.Proofs.YtpofhijgccocpaaGreatDoor
open Go.AS Go.TP
noncomputable section
end
end Go.Proofs.YtpofhijgccocpaaGreatDoor
end
section
namespace Go.Proofs.YtpofhijgccocpaaGreatDoor
open Go Go.AS Go.TP
end Go.Proofs.YtpofhijgccocpaaGreatDoor
end
section
namespace Go.Proofs.YtpofhijgccocpaaGreatDoor
open Go.AS Go.TP
noncomputable section
theorem szL (l:List UInt8):ByteArray.size ⟨⟨l⟩⟩=l.length:=rfl
theorem andT {a b:Bool}(ha:a=true)(hb:b=true):(a&&b)=true:=by rw [ha,hb]; rfl
theorem ex_go {p:Prop}(h:p:=by repeat (first | refine And.intro ?_ ?_ | refine Exists.intro () ?_ | exact True.intro | exact Wks.refl _ | exact Wk.refl _ | exact SameH.rfl | exact inR_i64 (by omega) (by omega) | exact decide_eq_true (by omega) | exact decide_eq_true (by simp only [ByteArray.size_append,szL,List.length_cons,List.length_nil]; omega) | exact decide_eq_false (by omega) | exact beq_eq_false_iff_ne.2 (by omega) | exact beq_iff_eq.2 (by omega) | exact andT (decide_eq_true (by omega)) rfl | exact rfl)):p:=h
end
end Go.Proofs.YtpofhijgccocpaaGreatDoor
end
section
namespace Go.Proofs.YtpofhijgccocpaaGreatDoor
open Go.AS Go.TP
noncomputable section
noncomputable def X0T:PX:={ X0 with own:=fun f d=>Nat.beq f fText||Nat.beq f fParse||(Nat.beq f fPSecond&&Nat.beq d 4) }
theorem sound0T:X0T.Sound:=by
 obtain ⟨a,b,c⟩:=sound0
 exact ⟨a,b,c⟩
noncomputable def XT:WX:=WX.base X0T
theorem XT_ok:XT.Sound := .base sound0T
end
end Go.Proofs.YtpofhijgccocpaaGreatDoor
end
section
namespace Go.Proofs.YtpofhijgccocpaaGreatDoor
open Go Go.AS Go.TP
end Go.Proofs.YtpofhijgccocpaaGreatDoor
end
section
namespace Go.Proofs.YtpofhijgccocpaaGreatDoor
open Go.AS Go.TP
noncomputable section
end
end Go.Proofs.YtpofhijgccocpaaGreatDoor
end
section
namespace Go.Proofs.YtpofhijgccocpaaGreatDoor
open Go.AS Go.TP
noncomputable section
mutual
def encN:Nd→AV
 | .mk k a n t ks => .agg [i0 k,i0 a,i0 n,s0 t, .lst false 5 (encL ks)]
def encL:List Nd→List AV
 | []=>[]
 | n::r=>encN n::encL r
end
def encP (n:Nd):AV := .agg [i0 n.kind,i0 n.at_,i0 n.num,s0 n.text, .lst false 5 (encL n.kids)]
theorem encP_eq (n:Nd):encP n=encN n:=by cases n; rfl
abbrev nodeV (k a n:Int)(t:ByteArray)(ks:List AV):AV := .agg [i0 k,i0 a,i0 n,s0 t, .lst false 5 ks]
abbrev zeroV:AV:=nodeV 0 0 0 ByteArray.empty []
abbrev tokV (k a:Int)(x:ByteArray):AV := .agg [i0 k,i0 a,s0 x]
abbrev nilE:AV := .lit .nilIface
def pArg:AV := .ptr 1048577 [0,0] 0 0
def pHeap (ts:List AV)(d:Int):Hp:=hpL [(1048577,⟨[0,0], .row true 2 [.agg [.lst false 3 ts,i0 d]]⟩)]
def pOut (ts:List AV)(d:Int)(n e:AV):Back:=⟨.tup [n,e],pHeap ts d,[1048577]⟩
def askP:List Nat:=[fPExpr,fPTerm,fPPart,fPPart1,fPRanged,fPRanged1,fPAtom,fPChain,fPExpect,fPNext,fPTake,fPWithin,fPUp,fPUp1,fPSecond,fPBrack,fPBrack1,fPCall,fPCall1,fBegins,fAt,fWrong,fParse]
def gP (X:WX)(f:Nat)(os:Orc)(ts ts':List AV)(d:Int)(n e:AV):Prop:=runF (X.ask askP) 14 f (fn f) (code f) os 0 [] [pArg] (pHeap ts d) (pOut ts' d n e)
def spP (ts ts':List AV)(d:Int)(n e:AV):Sp:=⟨Unit,fun _=>True,fun _=>[pArg],fun _=>pHeap ts d,fun _=>pOut ts' d n e⟩
def spForm (w:ByteArray)(v:Int):Sp := .pure Unit (fun _=>True) (fun _=>[s0 w]) (fun _=>i0 v)
def spPre (w:ByteArray)(b:Bool):Sp := .pure Unit (fun _=>True) (fun _=>[s0 w]) (fun _=>b0 b)
def spNum (t:AV)(n:Int)(b:Bool):Sp := .pure Unit (fun _=>True) (fun _=>[t]) (fun _ => .tup [i0 n,b0 b])
noncomputable def XE (ts ts':List AV)(d:Int)(n e:AV):WX:=XB.add fPExpr (Sp.con [spP ts ts' d n e])
def aBad (os:Orc)(k a:Int)(x:ByteArray)(r:List AV)(d:Int):Prop:=gP XB fPAtom os (tokV k a x::r) (tokV k a x::r) d zeroV (encErr 15 a)
def aDeep (os:Orc)(a:Int)(x:ByteArray)(r:List AV):Prop:=gP XB fPAtom os (tokV 2 a x::r) r 24 zeroV (encErr 16 a)
def aOpen (os:Orc)(a:Int)(x:ByteArray)(r:List AV)(d:Int)(q:Nd)(a':Int)(x':ByteArray)(r':List AV):Prop :=
 gP (XE r (tokV 3 a' x'::r') (d+1) (encP q) nilE) fPAtom os (tokV 2 a x::r) r' d (encP q) nilE
def aOpenX (os:Orc)(a:Int)(x:ByteArray)(r:List AV)(d:Int)(q:Nd)(k' a':Int)(x':ByteArray)(r':List AV):Prop :=
 gP (XE r (tokV k' a' x'::r') (d+1) (encP q) nilE) fPAtom os (tokV 2 a x::r) (tokV k' a' x'::r') d (encP q) (encErr 15 a')
def aOpenE (os:Orc)(a:Int)(x:ByteArray)(r:List AV)(d:Int)(q:Nd)(ek ea:Int)(ts':List AV):Prop :=
 gP (XE r ts' (d+1) (encP q) (encErr ek ea)) fPAtom os (tokV 2 a x::r) ts' d (encP q) (encErr ek ea)
def aName (os:Orc)(a:Int)(x:ByteArray)(k' a':Int)(x':ByteArray)(r:List AV)(d:Int):Prop :=
 gP (XB.add fIsPrefix (Sp.con [spPre x true])) fPAtom os (tokV 1 a x::tokV k' a' x'::r) (tokV k' a' x'::r) d (nodeV 1 a 0 x []) nilE
def aNameX (os:Orc)(a:Int)(x:ByteArray)(k' a':Int)(x':ByteArray)(r:List AV)(d:Int):Prop :=
 gP (XB.add fIsPrefix (Sp.con [spPre x false])) fPAtom os (tokV 1 a x::tokV k' a' x'::r) (tokV k' a' x'::r) d zeroV (encErr 15 a)
def aCall0 (os:Orc)(a:Int)(x:ByteArray)(a':Int)(x':ByteArray)(r:List AV)(d:Int):Prop :=
 gP (XB.add fForm (Sp.con [spForm x 0])) fPAtom os (tokV 1 a x::tokV 2 a' x'::r) (tokV 2 a' x'::r) d zeroV (encErr 15 a)
def aCallD (os:Orc)(a:Int)(x:ByteArray)(v a':Int)(x':ByteArray)(r:List AV):Prop :=
 gP (XB.add fForm (Sp.con [spForm x v])) fPAtom os (tokV 1 a x::tokV 2 a' x'::r) r 24 zeroV (encErr 16 a')
def aCall1 (os:Orc)(a:Int)(x:ByteArray)(a':Int)(x':ByteArray)(c:Int)(y:ByteArray)(r:List AV)(d:Int):Prop :=
 gP (XB.add fForm (Sp.con [spForm x 1])) fPAtom os (tokV 1 a x::tokV 2 a' x'::tokV 3 c y::r) r d (nodeV 10 a 0 x []) nilE
def aCall1X (os:Orc)(a:Int)(x:ByteArray)(a':Int)(x':ByteArray)(kc c:Int)(y:ByteArray)(r:List AV)(d:Int):Prop :=
 gP (XB.add fForm (Sp.con [spForm x 1])) fPAtom os (tokV 1 a x::tokV 2 a' x'::tokV kc c y::r) (tokV kc c y::r) d (nodeV 10 a 0 x []) (encErr 15 c)
def XF (x:ByteArray)(v:Int)(ts ts':List AV)(d:Int)(n e:AV):WX:=(XE ts ts' d n e).add fForm (Sp.con [spForm x v])
def aCallE (os:Orc)(a:Int)(x:ByteArray)(v a':Int)(x':ByteArray)(r:List AV)(d:Int)(q:Nd)(ek ea:Int)(ts':List AV):Prop :=
 gP (XF x v r ts' (d+1) (encP q) (encErr ek ea)) fPAtom os (tokV 1 a x::tokV 2 a' x'::r) ts' d (nodeV 10 a 0 x [encP q]) (encErr ek ea)
def aCall2 (os:Orc)(a:Int)(x:ByteArray)(a':Int)(x':ByteArray)(r:List AV)(d:Int)(q:Nd)(c:Int)(y:ByteArray)(r':List AV):Prop :=
 gP (XF x 2 r (tokV 3 c y::r') (d+1) (encP q) nilE) fPAtom os (tokV 1 a x::tokV 2 a' x'::r) r' d (nodeV 10 a 0 x [encP q]) nilE
def aCall2X (os:Orc)(a:Int)(x:ByteArray)(a':Int)(x':ByteArray)(r:List AV)(d:Int)(q:Nd)(kc c:Int)(y:ByteArray)(r':List AV):Prop :=
 gP (XF x 2 r (tokV kc c y::r') (d+1) (encP q) nilE) fPAtom os (tokV 1 a x::tokV 2 a' x'::r) (tokV kc c y::r') d (nodeV 10 a 0 x [encP q]) (encErr 15 c)
def aCall3C (os:Orc)(a:Int)(x:ByteArray)(a':Int)(x':ByteArray)(r:List AV)(d:Int)(q:Nd)(kc c:Int)(y:ByteArray)(r':List AV):Prop :=
 gP (XF x 3 r (tokV kc c y::r') (d+1) (encP q) nilE) fPAtom os (tokV 1 a x::tokV 2 a' x'::r) (tokV kc c y::r') d (nodeV 10 a 0 x [encP q]) (encErr 15 c)
def XFN (x:ByteArray)(ts ts':List AV)(d:Int)(n e t:AV)(m:Int)(b:Bool):WX:=(XF x 3 ts ts' d n e).add fNumber (Sp.con [spNum t m b])
def aCall3N (os:Orc)(a:Int)(x:ByteArray)(a':Int)(x':ByteArray)(r:List AV)(d:Int)(q:Nd)(c:Int)(y:ByteArray)(kn an:Int)(xn:ByteArray)(m:Int)(r':List AV):Prop :=
 gP (XFN x r (tokV 4 c y::tokV kn an xn::r') (d+1) (encP q) nilE (tokV kn an xn) m false) fPAtom os (tokV 1 a x::tokV 2 a' x'::r) (tokV kn an xn::r') d (nodeV 10 a 0 x [encP q]) (encErr 15 an)
def aCall3 (os:Orc)(a:Int)(x:ByteArray)(a':Int)(x':ByteArray)(r:List AV)(d:Int)(q:Nd)(c:Int)(y:ByteArray)(an:Int)(xn:ByteArray)(m z:Int)(w:ByteArray)(r':List AV):Prop :=
 gP (XFN x r (tokV 4 c y::tokV 1 an xn::tokV 3 z w::r') (d+1) (encP q) nilE (tokV 1 an xn) m true) fPAtom os (tokV 1 a x::tokV 2 a' x'::r) r' d (nodeV 10 a m x [encP q]) nilE
def aCall3X (os:Orc)(a:Int)(x:ByteArray)(a':Int)(x':ByteArray)(r:List AV)(d:Int)(q:Nd)(c:Int)(y:ByteArray)(an:Int)(xn:ByteArray)(m kz z:Int)(w:ByteArray)(r':List AV):Prop :=
 gP (XFN x r (tokV 4 c y::tokV 1 an xn::tokV kz z w::r') (d+1) (encP q) nilE (tokV 1 an xn) m true) fPAtom os (tokV 1 a x::tokV 2 a' x'::r) (tokV kz z w::r') d (nodeV 10 a m x [encP q]) (encErr 15 z)
end
end Go.Proofs.YtpofhijgccocpaaGreatDoor
end
section
namespace Go.Proofs.YtpofhijgccocpaaGreatDoor
open Go Go.AS Go.TP
noncomputable abbrev qVP10 (a':Int)(x':ByteArray)(r:List AV)(d:Int):=(True∧Wks [AV.ptr 1048577 [0,0] 0 0] [AV.ptr 1048577 [0,0] 0 0]∧hpL [eR 1048577 [0,0] 2 [AV.agg [AV.lst false 3 (List.drop 1 (AV.agg [i0 (2:Int),i0 a',s0 x']::r)),i0 (d+(1:Int))]]]=hpL [eR 1048577 [0,0] 2 [AV.agg [AV.lst false 3 r,i0 (d+(1:Int))]]])
noncomputable abbrev qVP11 (a:Int)(x:ByteArray)(a':Int)(x':ByteArray)(r:List AV):=(decide ((0:Int)≤(1:Int)∧(1:Int)≤(↑(List.length (AV.agg [i0 (1:Int),i0 a,s0 x]::AV.agg [i0 (2:Int),i0 a',s0 x']::r)):Int))&&Nat.beq 3 3)
noncomputable abbrev qVP12 (x:ByteArray):=(True∧Wks [s0 x] [s0 x]∧hpL []=hpL [])
noncomputable abbrev qVP13 (a':Int)(x':ByteArray)(r:List AV):=(decide ((0:Int)≤(1:Int)∧(1:Int)≤(↑(List.length (AV.agg [i0 (2:Int),i0 a',s0 x']::r)):Int))&&Nat.beq 3 3)
theorem aBad_vc (k a:Int)(x:ByteArray)(r:List AV)(d:Int):aBad (Orc.f (Orc.f (Orc.f Orc.z))) k a x r d=(let z1:=(hpL [eR 1048577 [0,0] 2 [AV.agg [AV.lst false 3 (AV.agg [i0 k,i0 a,s0 x]::r),i0 d]]]); let z2:=AV.iface 118 (AV.ref (AV.agg [i0 a,AV.iface 26 (i0 (15:Int))])); (k==(2:Int))=false∧(k==(1:Int))=false∧Nf (Wk (AV.tup [AV.agg [i0 (0:Int),i0 (0:Int),i0 (0:Int),s0 ⟨⟨[]⟩⟩,AV.lit (Value.slice none 0 0)],z2]) (AV.tup [AV.agg [i0 (0:Int),i0 (0:Int),i0 (0:Int),s0 ByteArray.empty,AV.lst false 5 []],z2])∧SameH z1 z1)):=by kernel_rfl
def oaDeep:Orc:=Orc.t (Orc.t (Orc.t (Orc.f Orc.z)))
theorem aDeep_vc (a:Int)(x:ByteArray)(r:List AV):aDeep oaDeep a x r=(let z1:=AV.iface 118 (AV.ref (AV.agg [i0 a,AV.iface 26 (i0 (16:Int))])); let z2:=(AV.agg [i0 (2:Int),i0 a,s0 x]::r); Yt (Yt ((decide ((0:Int)≤(1:Int)∧(1:Int)≤(↑(List.length z2):Int))&&true)=true∧Yt (Nf (Wk (AV.tup [AV.agg [i0 (0:Int),i0 (0:Int),i0 (0:Int),s0 ⟨⟨[]⟩⟩,AV.lit (Value.slice none 0 0)],z1]) (AV.tup [AV.agg [i0 (0:Int),i0 (0:Int),i0 (0:Int),s0 ByteArray.empty,AV.lst false 5 []],z1])∧SameH (hpL [eR 1048577 [0,0] 2 [AV.agg [AV.lst false 3 (List.drop 1 z2),i0 (24:Int)]]]) (hpL [eR 1048577 [0,0] 2 [AV.agg [AV.lst false 3 r,i0 (24:Int)]]])))))):=by kernel_rfl
def oaOpen:Orc:=Orc.t (Orc.t (Orc.f (Orc.f (Orc.f (Orc.t Orc.z)))))
theorem aOpen_vc (a:Int)(x:ByteArray)(r:List AV)(d:Int)(q:Nd)(a':Int)(x':ByteArray)(r':List AV):aOpen oaOpen a x r d q a' x' r'=(let z1:=(AV.agg [i0 (3:Int),i0 a',s0 x']::r'); let z2:=(AV.agg [i0 (2:Int),i0 a,s0 x]::r); let z3:=(AV.tup [encP q,AV.lit Value.nilIface]); Yt (Yt ((decide ((0:Int)≤(1:Int)∧(1:Int)≤(↑(List.length z2):Int))&&Nat.beq 3 3)=true∧(d==(24:Int))=false∧inR IntKind.i64 (d+(1:Int))=true∧∃ (_:Unit),(True∧Wks [AV.ptr 1048577 [0,0] 0 0] [AV.ptr 1048577 [0,0] 0 0]∧hpL [eR 1048577 [0,0] 2 [AV.agg [AV.lst false 3 (List.drop 1 z2),i0 (d+(1:Int))]]]=hpL [eR 1048577 [0,0] 2 [AV.agg [AV.lst false 3 r,i0 (d+(1:Int))]]])∧Nf (Nf (Yt ((decide ((0:Int)≤(1:Int)∧(1:Int)≤(↑(List.length z1):Int))&&Nat.beq 3 3)=true∧inR IntKind.i64 (d+(1:Int)-(1:Int))=true∧Wk z3 z3∧SameH (hpL [eR 1048577 [0,0] 2 [AV.agg [AV.lst false 3 (List.drop 1 z1),i0 (d+(1:Int)-(1:Int))]]]) (hpL [eR 1048577 [0,0] 2 [AV.agg [AV.lst false 3 r',i0 d]]]))))))):=by kernel_rfl
def oaOpenX:Orc:=Orc.t (Orc.t (Orc.f (Orc.f (Orc.t (Orc.f Orc.z)))))
theorem aOpenX_vc (a:Int)(x:ByteArray)(r:List AV)(d:Int)(q:Nd)(k' a':Int)(x':ByteArray)(r':List AV):aOpenX oaOpenX a x r d q k' a' x' r'=(let z1:=(AV.tup [encP q,AV.iface 118 (AV.ref (AV.agg [i0 a',AV.iface 26 (i0 (15:Int))]))]); let z2:=AV.lst false 3 (AV.agg [i0 k',i0 a',s0 x']::r'); let z3:=(AV.agg [i0 (2:Int),i0 a,s0 x]::r); Yt (Yt ((decide ((0:Int)≤(1:Int)∧(1:Int)≤(↑(List.length z3):Int))&&Nat.beq 3 3)=true∧(d==(24:Int))=false∧inR IntKind.i64 (d+(1:Int))=true∧∃ (_:Unit),(True∧Wks [AV.ptr 1048577 [0,0] 0 0] [AV.ptr 1048577 [0,0] 0 0]∧hpL [eR 1048577 [0,0] 2 [AV.agg [AV.lst false 3 (List.drop 1 z3),i0 (d+(1:Int))]]]=hpL [eR 1048577 [0,0] 2 [AV.agg [AV.lst false 3 r,i0 (d+(1:Int))]]])∧Nf ((k' != (3:Int))=true∧Nf (inR IntKind.i64 (d+(1:Int)-(1:Int))=true∧Wk z1 z1∧SameH (hpL [eR 1048577 [0,0] 2 [AV.agg [z2,i0 (d+(1:Int)-(1:Int))]]]) (hpL [eR 1048577 [0,0] 2 [AV.agg [z2,i0 d]]])))))):=by kernel_rfl
def oaOpenE:Orc:=Orc.t (Orc.t (Orc.f (Orc.t Orc.z)))
theorem aOpenE_vc (a:Int)(x:ByteArray)(r:List AV)(d:Int)(q:Nd)(ek ea:Int)(ts':List AV):aOpenE oaOpenE a x r d q ek ea ts'=(let z1:=(AV.tup [encP q,AV.iface 118 (AV.ref (AV.agg [i0 ea,AV.iface 26 (i0 ek)]))]); let z2:=(AV.agg [i0 (2:Int),i0 a,s0 x]::r); Yt (Yt ((decide ((0:Int)≤(1:Int)∧(1:Int)≤(↑(List.length z2):Int))&&Nat.beq 3 3)=true∧(d==(24:Int))=false∧inR IntKind.i64 (d+(1:Int))=true∧∃ (_:Unit),(True∧Wks [AV.ptr 1048577 [0,0] 0 0] [AV.ptr 1048577 [0,0] 0 0]∧hpL [eR 1048577 [0,0] 2 [AV.agg [AV.lst false 3 (List.drop 1 z2),i0 (d+(1:Int))]]]=hpL [eR 1048577 [0,0] 2 [AV.agg [AV.lst false 3 r,i0 (d+(1:Int))]]])∧Yt (inR IntKind.i64 (d+(1:Int)-(1:Int))=true∧Wk z1 z1∧SameH (hpL [eR 1048577 [0,0] 2 [AV.agg [AV.lst false 3 ts',i0 (d+(1:Int)-(1:Int))]]]) (hpL [eR 1048577 [0,0] 2 [AV.agg [AV.lst false 3 ts',i0 d]]]))))):=by kernel_rfl
def oaName:Orc:=Orc.f (Orc.t (Orc.t (Orc.f (Orc.f Orc.z))))
theorem aName_vc (a:Int)(x:ByteArray)(k' a':Int)(x':ByteArray)(r:List AV)(d:Int):aName oaName a x k' a' x' r d=(let z1:=(hpL [eR 1048577 [0,0] 2 [AV.agg [AV.lst false 3 (AV.agg [i0 k',i0 a',s0 x']::r),i0 d]]]); Nf (Yt (Yt ((decide ((0:Int)≤(1:Int)∧(1:Int)≤(↑(List.length (AV.agg [i0 (1:Int),i0 a,s0 x]::AV.agg [i0 k',i0 a',s0 x']::r)):Int))&&Nat.beq 3 3)=true∧(k'==(2:Int))=false∧∃ (_:Unit),(qVP12 x)∧Nf (Wk (AV.tup [AV.agg [i0 (1:Int),i0 a,i0 (0:Int),s0 x,AV.lit (Value.slice none 0 0)],AV.lit Value.nilIface]) (AV.tup [AV.agg [i0 (1:Int),i0 a,i0 (0:Int),s0 x,AV.lst false 5 []],AV.lit Value.nilIface])∧SameH z1 z1))))):=by kernel_rfl
def oaNameX:Orc:=Orc.f (Orc.t (Orc.t (Orc.f (Orc.t (Orc.f Orc.z)))))
theorem aNameX_vc (a:Int)(x:ByteArray)(k' a':Int)(x':ByteArray)(r:List AV)(d:Int):aNameX oaNameX a x k' a' x' r d=(let z1:=(hpL [eR 1048577 [0,0] 2 [AV.agg [AV.lst false 3 (AV.agg [i0 k',i0 a',s0 x']::r),i0 d]]]); let z2:=AV.iface 118 (AV.ref (AV.agg [i0 a,AV.iface 26 (i0 (15:Int))])); Nf (Yt (Yt ((decide ((0:Int)≤(1:Int)∧(1:Int)≤(↑(List.length (AV.agg [i0 (1:Int),i0 a,s0 x]::AV.agg [i0 k',i0 a',s0 x']::r)):Int))&&Nat.beq 3 3)=true∧(k'==(2:Int))=false∧∃ (_:Unit),(qVP12 x)∧Yt (Nf (Wk (AV.tup [AV.agg [i0 (0:Int),i0 (0:Int),i0 (0:Int),s0 ⟨⟨[]⟩⟩,AV.lit (Value.slice none 0 0)],z2]) (AV.tup [AV.agg [i0 (0:Int),i0 (0:Int),i0 (0:Int),s0 ByteArray.empty,AV.lst false 5 []],z2])∧SameH z1 z1)))))):=by kernel_rfl
def oaCall0:Orc:=Orc.f (HT (Orc.f Orc.z))
theorem aCall0_vc (a:Int)(x:ByteArray)(a':Int)(x':ByteArray)(r:List AV)(d:Int):aCall0 oaCall0 a x a' x' r d=(let z1:=(hpL [eR 1048577 [0,0] 2 [AV.agg [AV.lst false 3 (AV.agg [i0 (2:Int),i0 a',s0 x']::r),i0 d]]]); let z2:=AV.iface 118 (AV.ref (AV.agg [i0 a,AV.iface 26 (i0 (15:Int))])); Nf (Yt (Yt ((qVP11 a x a' x' r)=true∧Yt (∃ (_:Unit),(qVP12 x)∧Yt (Nf (Wk (AV.tup [AV.agg [i0 (0:Int),i0 (0:Int),i0 (0:Int),s0 ⟨⟨[]⟩⟩,AV.lit (Value.slice none 0 0)],z2]) (AV.tup [AV.agg [i0 (0:Int),i0 (0:Int),i0 (0:Int),s0 ByteArray.empty,AV.lst false 5 []],z2])∧SameH z1 z1))))))):=by kernel_rfl
def oaCallD:Orc:=Orc.f (Orc.t (Orc.t (Orc.t (Orc.f (Orc.t (Orc.t (Orc.f Orc.z)))))))
theorem aCallD_vc (a:Int)(x:ByteArray)(v a':Int)(x':ByteArray)(r:List AV):aCallD oaCallD a x v a' x' r=(let z1:=AV.iface 118 (AV.ref (AV.agg [i0 a',AV.iface 26 (i0 (16:Int))])); Nf (Yt (Yt ((qVP11 a x a' x' r)=true∧Yt (∃ (_:Unit),(qVP12 x)∧(v==(0:Int))=false∧Yt ((qVP13 a' x' r)=true∧Yt (Nf (Wk (AV.tup [AV.agg [i0 (0:Int),i0 (0:Int),i0 (0:Int),s0 ⟨⟨[]⟩⟩,AV.lit (Value.slice none 0 0)],z1]) (AV.tup [AV.agg [i0 (0:Int),i0 (0:Int),i0 (0:Int),s0 ByteArray.empty,AV.lst false 5 []],z1])∧SameH (hpL [eR 1048577 [0,0] 2 [AV.agg [AV.lst false 3 (List.drop 1 (AV.agg [i0 (2:Int),i0 a',s0 x']::r)),i0 (24:Int)]]]) (hpL [eR 1048577 [0,0] 2 [AV.agg [AV.lst false 3 r,i0 (24:Int)]]]))))))))):=by kernel_rfl
def oaCall1:Orc:=Orc.f (Orc.t (Orc.t (Orc.t (Orc.f (Orc.t (Orc.f (Orc.t (Orc.f (Orc.f (Orc.t Orc.z))))))))))
theorem aCall1_vc (a:Int)(x:ByteArray)(a':Int)(x':ByteArray)(c:Int)(y:ByteArray)(r:List AV)(d:Int):aCall1 oaCall1 a x a' x' c y r d=(let z1:=[i0 (3:Int),i0 c,s0 y]; Nf (Yt (Yt ((decide ((0:Int)≤(1:Int)∧(1:Int)≤(↑(List.length (AV.agg [i0 (1:Int),i0 a,s0 x]::AV.agg [i0 (2:Int),i0 a',s0 x']::AV.agg z1::r)):Int))&&Nat.beq 3 3)=true∧Yt (∃ (_:Unit),(qVP12 x)∧Nf (Yt ((decide ((0:Int)≤(1:Int)∧(1:Int)≤(↑(List.length (AV.agg [i0 (2:Int),i0 a',s0 x']::AV.agg z1::r)):Int))&&Nat.beq 3 3)=true∧(d==(24:Int))=false∧inR IntKind.i64 (d+(1:Int))=true∧∃ (_:Unit),(qVP12 x)∧Yt (Nf (Nf (Yt ((decide ((0:Int)≤(1:Int)∧(1:Int)≤(↑(List.length (AV.agg z1::r)):Int))&&Nat.beq 3 3)=true∧inR IntKind.i64 (d+(1:Int)-(1:Int))=true∧Wk (AV.tup [AV.agg [i0 (10:Int),i0 a,i0 (0:Int),s0 x,AV.lit (Value.slice none 0 0)],AV.lit Value.nilIface]) (AV.tup [AV.agg [i0 (10:Int),i0 a,i0 (0:Int),s0 x,AV.lst false 5 []],AV.lit Value.nilIface])∧SameH (hpL [eR 1048577 [0,0] 2 [AV.agg [AV.lst false 3 (List.drop 1 (AV.agg z1::r)),i0 (d+(1:Int)-(1:Int))]]]) (hpL [eR 1048577 [0,0] 2 [AV.agg [AV.lst false 3 r,i0 d]]])))))))))))):=by kernel_rfl
def oaCall1X:Orc:=Orc.f (Orc.t (Orc.t (Orc.t (Orc.f (Orc.t (Orc.f (Orc.t (Orc.f (Orc.t (Orc.f Orc.z))))))))))
theorem aCall1X_vc (a:Int)(x:ByteArray)(a':Int)(x':ByteArray)(kc c:Int)(y:ByteArray)(r:List AV)(d:Int):aCall1X oaCall1X a x a' x' kc c y r d=(let z1:=AV.iface 118 (AV.ref (AV.agg [i0 c,AV.iface 26 (i0 (15:Int))])); let z2:=[i0 kc,i0 c,s0 y]; Nf (Yt (Yt ((decide ((0:Int)≤(1:Int)∧(1:Int)≤(↑(List.length (AV.agg [i0 (1:Int),i0 a,s0 x]::AV.agg [i0 (2:Int),i0 a',s0 x']::AV.agg z2::r)):Int))&&Nat.beq 3 3)=true∧Yt (∃ (_:Unit),(qVP12 x)∧Nf (Yt ((decide ((0:Int)≤(1:Int)∧(1:Int)≤(↑(List.length (AV.agg [i0 (2:Int),i0 a',s0 x']::AV.agg z2::r)):Int))&&Nat.beq 3 3)=true∧(d==(24:Int))=false∧inR IntKind.i64 (d+(1:Int))=true∧∃ (_:Unit),(qVP12 x)∧Yt (Nf ((kc != (3:Int))=true∧Nf (inR IntKind.i64 (d+(1:Int)-(1:Int))=true∧Wk (AV.tup [AV.agg [i0 (10:Int),i0 a,i0 (0:Int),s0 x,AV.lit (Value.slice none 0 0)],z1]) (AV.tup [AV.agg [i0 (10:Int),i0 a,i0 (0:Int),s0 x,AV.lst false 5 []],z1])∧SameH (hpL [eR 1048577 [0,0] 2 [AV.agg [AV.lst false 3 (AV.agg z2::r),i0 (d+(1:Int)-(1:Int))]]]) (hpL [eR 1048577 [0,0] 2 [AV.agg [AV.lst false 3 (AV.agg z2::r),i0 d]]]))))))))))):=by kernel_rfl
def oaCallE:Orc:=Orc.f (Orc.t (Orc.t (Orc.t (Orc.f (Orc.t (Orc.f (Orc.f (HT (Orc.t (Orc.t Orc.z))))))))))
theorem aCallE_vc (a:Int)(x:ByteArray)(v a':Int)(x':ByteArray)(r:List AV)(d:Int)(q:Nd)(ek ea:Int)(ts':List AV):aCallE oaCallE a x v a' x' r d q ek ea ts'=(let z1:=AV.iface 118 (AV.ref (AV.agg [i0 ea,AV.iface 26 (i0 ek)])); Nf (Yt (Yt ((qVP11 a x a' x' r)=true∧Yt (∃ (_:Unit),(qVP12 x)∧(v==(0:Int))=false∧Yt ((qVP13 a' x' r)=true∧(d==(24:Int))=false∧inR IntKind.i64 (d+(1:Int))=true∧∃ (_:Unit),(qVP12 x)∧(v==(1:Int))=false∧∃ (_:Unit),(qVP10 a' x' r d)∧Yt4 (Yt (Yt (inR IntKind.i64 (d+(1:Int)-(1:Int))=true∧Wk (AV.tup [AV.agg [i0 (10:Int),i0 a,i0 (0:Int),s0 x,AV.lst true 5 [encP q]],z1]) (AV.tup [AV.agg [i0 (10:Int),i0 a,i0 (0:Int),s0 x,AV.lst false 5 [encP q]],z1])∧SameH (hpL [eR 1048577 [0,0] 2 [AV.agg [AV.lst false 3 ts',i0 (d+(1:Int)-(1:Int))]]]) (hpL [eR 1048577 [0,0] 2 [AV.agg [AV.lst false 3 ts',i0 d]]])))))))))):=by kernel_rfl
def oaCall2:Orc:=Orc.f (Orc.t (Orc.t (Orc.t (Orc.f (Orc.t (HF (Orc.f (Orc.f (Orc.t (Orc.f (Orc.f (Orc.t Orc.z))))))))))))
theorem aCall2_vc (a:Int)(x:ByteArray)(a':Int)(x':ByteArray)(r:List AV)(d:Int)(q:Nd)(c:Int)(y:ByteArray)(r':List AV):aCall2 oaCall2 a x a' x' r d q c y r'=(let z1:=(AV.agg [i0 (3:Int),i0 c,s0 y]::r'); Nf (Yt (Yt ((qVP11 a x a' x' r)=true∧Yt (∃ (_:Unit),(qVP12 x)∧Nf (Yt ((qVP13 a' x' r)=true∧(d==(24:Int))=false∧inR IntKind.i64 (d+(1:Int))=true∧∃ (_:Unit),(qVP12 x)∧Nf (∃ (_:Unit),(qVP10 a' x' r d)∧Nf (Nf (Nf (∃ (_:Unit),(qVP12 x)∧Nf (Yt (Nf (Nf (Yt ((decide ((0:Int)≤(1:Int)∧(1:Int)≤(↑(List.length z1):Int))&&Nat.beq 3 3)=true∧inR IntKind.i64 (d+(1:Int)-(1:Int))=true∧Wk (AV.tup [AV.agg [i0 (10:Int),i0 a,i0 (0:Int),s0 x,AV.lst true 5 [encP q]],AV.lit Value.nilIface]) (AV.tup [AV.agg [i0 (10:Int),i0 a,i0 (0:Int),s0 x,AV.lst false 5 [encP q]],AV.lit Value.nilIface])∧SameH (hpL [eR 1048577 [0,0] 2 [AV.agg [AV.lst false 3 (List.drop 1 z1),i0 (d+(1:Int)-(1:Int))]]]) (hpL [eR 1048577 [0,0] 2 [AV.agg [AV.lst false 3 r',i0 d]]]))))))))))))))))):=by kernel_rfl
def oaCall2X:Orc:=Orc.f (Orc.t (Orc.t (Orc.t (Orc.f (Orc.t (HF (Orc.f (Orc.f (Orc.t (Orc.f (Orc.t (Orc.f Orc.z))))))))))))
theorem aCall2X_vc (a:Int)(x:ByteArray)(a':Int)(x':ByteArray)(r:List AV)(d:Int)(q:Nd)(kc c:Int)(y:ByteArray)(r':List AV):aCall2X oaCall2X a x a' x' r d q kc c y r'=(let z1:=AV.iface 118 (AV.ref (AV.agg [i0 c,AV.iface 26 (i0 (15:Int))])); let z2:=AV.lst false 3 (AV.agg [i0 kc,i0 c,s0 y]::r'); Nf (Yt (Yt ((qVP11 a x a' x' r)=true∧Yt (∃ (_:Unit),(qVP12 x)∧Nf (Yt ((qVP13 a' x' r)=true∧(d==(24:Int))=false∧inR IntKind.i64 (d+(1:Int))=true∧∃ (_:Unit),(qVP12 x)∧Nf (∃ (_:Unit),(qVP10 a' x' r d)∧Nf (Nf (Nf (∃ (_:Unit),(qVP12 x)∧Nf (Yt (Nf ((kc != (3:Int))=true∧Nf (inR IntKind.i64 (d+(1:Int)-(1:Int))=true∧Wk (AV.tup [AV.agg [i0 (10:Int),i0 a,i0 (0:Int),s0 x,AV.lst true 5 [encP q]],z1]) (AV.tup [AV.agg [i0 (10:Int),i0 a,i0 (0:Int),s0 x,AV.lst false 5 [encP q]],z1])∧SameH (hpL [eR 1048577 [0,0] 2 [AV.agg [z2,i0 (d+(1:Int)-(1:Int))]]]) (hpL [eR 1048577 [0,0] 2 [AV.agg [z2,i0 d]]])))))))))))))))):=by kernel_rfl
def oaCall3C:Orc:=Orc.f (Orc.t (Orc.t (Orc.t (Orc.f (Orc.t (HF (Orc.f (Orc.f (Orc.f (Orc.t (Orc.f (Orc.t (Orc.t Orc.z)))))))))))))
theorem aCall3C_vc (a:Int)(x:ByteArray)(a':Int)(x':ByteArray)(r:List AV)(d:Int)(q:Nd)(kc c:Int)(y:ByteArray)(r':List AV):aCall3C oaCall3C a x a' x' r d q kc c y r'=(let z1:=AV.iface 118 (AV.ref (AV.agg [i0 c,AV.iface 26 (i0 (15:Int))])); let z2:=AV.lst false 3 (AV.agg [i0 kc,i0 c,s0 y]::r'); Nf (Yt (Yt ((qVP11 a x a' x' r)=true∧Yt (∃ (_:Unit),(qVP12 x)∧Nf (Yt ((qVP13 a' x' r)=true∧(d==(24:Int))=false∧inR IntKind.i64 (d+(1:Int))=true∧∃ (_:Unit),(qVP12 x)∧Nf (∃ (_:Unit),(qVP10 a' x' r d)∧Nf (Nf (Nf (∃ (_:Unit),(qVP12 x)∧Nf (Nf ((kc != (4:Int))=true∧Nf (Yt (Yt (inR IntKind.i64 (d+(1:Int)-(1:Int))=true∧Wk (AV.tup [AV.agg [i0 (10:Int),i0 a,i0 (0:Int),s0 x,AV.lst true 5 [encP q]],z1]) (AV.tup [AV.agg [i0 (10:Int),i0 a,i0 (0:Int),s0 x,AV.lst false 5 [encP q]],z1])∧SameH (hpL [eR 1048577 [0,0] 2 [AV.agg [z2,i0 (d+(1:Int)-(1:Int))]]]) (hpL [eR 1048577 [0,0] 2 [AV.agg [z2,i0 d]]]))))))))))))))))):=by kernel_rfl
def oaCall3N:Orc:=Orc.f (Orc.t (Orc.t (Orc.t (Orc.f (Orc.t (HF (HF (Orc.t (Orc.f (Orc.t (Orc.t Orc.z)))))))))))
theorem aCall3N_vc (a:Int)(x:ByteArray)(a':Int)(x':ByteArray)(r:List AV)(d:Int)(q:Nd)(c:Int)(y:ByteArray)(kn an:Int)(xn:ByteArray)(m:Int)(r':List AV):aCall3N oaCall3N a x a' x' r d q c y kn an xn m r'=(let z1:=[i0 kn,i0 an,s0 xn]; let z2:=AV.iface 118 (AV.ref (AV.agg [i0 an,AV.iface 26 (i0 (15:Int))])); Nf (Yt (Yt ((qVP11 a x a' x' r)=true∧Yt (∃ (_:Unit),(qVP12 x)∧Nf (Yt ((qVP13 a' x' r)=true∧(d==(24:Int))=false∧inR IntKind.i64 (d+(1:Int))=true∧∃ (_:Unit),(qVP12 x)∧Nf (∃ (_:Unit),(qVP10 a' x' r d)∧Nf (Nf (Nf (∃ (_:Unit),(qVP12 x)∧Nf (Nf (Nf (Yt ((decide ((0:Int)≤(1:Int)∧(1:Int)≤(↑(List.length (AV.agg [i0 (4:Int),i0 c,s0 y]::AV.agg z1::r')):Int))&&Nat.beq 3 3)=true∧Nf (U1 [AV.agg z1] [] (Yt (Yt (inR IntKind.i64 (d+(1:Int)-(1:Int))=true∧Wk (AV.tup [AV.agg [i0 (10:Int),i0 a,i0 (0:Int),s0 x,AV.lst true 5 [encP q]],z2]) (AV.tup [AV.agg [i0 (10:Int),i0 a,i0 (0:Int),s0 x,AV.lst false 5 [encP q]],z2])∧SameH (hpL [eR 1048577 [0,0] 2 [AV.agg [AV.lst false 3 (AV.agg z1::r'),i0 (d+(1:Int)-(1:Int))]]]) (hpL [eR 1048577 [0,0] 2 [AV.agg [AV.lst false 3 (AV.agg z1::r'),i0 d]]])))))))))))))))))))):=by kernel_rfl
def oaCall3:Orc:=Orc.f (Orc.t (Orc.t (Orc.t (Orc.f (Orc.t (HF (HF (Orc.t (Orc.f (Orc.f (Orc.t (Orc.f (Orc.f (Orc.t Orc.z))))))))))))))
theorem aCall3_vc (a:Int)(x:ByteArray)(a':Int)(x':ByteArray)(r:List AV)(d:Int)(q:Nd)(c:Int)(y:ByteArray)(an:Int)(xn:ByteArray)(m z:Int)(w:ByteArray)(r':List AV):aCall3 oaCall3 a x a' x' r d q c y an xn m z w r'=(let z1:=[i0 (1:Int),i0 an,s0 xn]; let z2:=[i0 (3:Int),i0 z,s0 w]; Nf (Yt (Yt ((qVP11 a x a' x' r)=true∧Yt (∃ (_:Unit),(qVP12 x)∧Nf (Yt ((qVP13 a' x' r)=true∧(d==(24:Int))=false∧inR IntKind.i64 (d+(1:Int))=true∧∃ (_:Unit),(qVP12 x)∧Nf (∃ (_:Unit),(qVP10 a' x' r d)∧Nf (Nf (Nf (∃ (_:Unit),(qVP12 x)∧Nf (Nf (Nf (Yt ((decide ((0:Int)≤(1:Int)∧(1:Int)≤(↑(List.length (AV.agg [i0 (4:Int),i0 c,s0 y]::AV.agg z1::AV.agg z2::r')):Int))&&Nat.beq 3 3)=true∧Nf (U1 [AV.agg z1] [] (Nf (Yt ((decide ((0:Int)≤(1:Int)∧(1:Int)≤(↑(List.length (AV.agg z1::AV.agg z2::r')):Int))&&Nat.beq 3 3)=true∧Nf (Nf (Yt ((decide ((0:Int)≤(1:Int)∧(1:Int)≤(↑(List.length (AV.agg z2::r')):Int))&&Nat.beq 3 3)=true∧inR IntKind.i64 (d+(1:Int)-(1:Int))=true∧Wk (AV.tup [AV.agg [i0 (10:Int),i0 a,i0 m,s0 x,AV.lst true 5 [encP q]],AV.lit Value.nilIface]) (AV.tup [AV.agg [i0 (10:Int),i0 a,i0 m,s0 x,AV.lst false 5 [encP q]],AV.lit Value.nilIface])∧SameH (hpL [eR 1048577 [0,0] 2 [AV.agg [AV.lst false 3 (List.drop 1 (AV.agg z2::r')),i0 (d+(1:Int)-(1:Int))]]]) (hpL [eR 1048577 [0,0] 2 [AV.agg [AV.lst false 3 r',i0 d]]]))))))))))))))))))))))):=by kernel_rfl
def oaCall3X:Orc:=Orc.f (Orc.t (Orc.t (Orc.t (Orc.f (Orc.t (HF (HF (Orc.t (Orc.f (Orc.f (Orc.t (Orc.f (Orc.t (Orc.f Orc.z))))))))))))))
theorem aCall3X_vc (a:Int)(x:ByteArray)(a':Int)(x':ByteArray)(r:List AV)(d:Int)(q:Nd)(c:Int)(y:ByteArray)(an:Int)(xn:ByteArray)(m kz z:Int)(w:ByteArray)(r':List AV):aCall3X oaCall3X a x a' x' r d q c y an xn m kz z w r'=(let z1:=[i0 (1:Int),i0 an,s0 xn]; let z2:=AV.iface 118 (AV.ref (AV.agg [i0 z,AV.iface 26 (i0 (15:Int))])); let z3:=[i0 kz,i0 z,s0 w]; Nf (Yt (Yt ((qVP11 a x a' x' r)=true∧Yt (∃ (_:Unit),(qVP12 x)∧Nf (Yt ((qVP13 a' x' r)=true∧(d==(24:Int))=false∧inR IntKind.i64 (d+(1:Int))=true∧∃ (_:Unit),(qVP12 x)∧Nf (∃ (_:Unit),(qVP10 a' x' r d)∧Nf (Nf (Nf (∃ (_:Unit),(qVP12 x)∧Nf (Nf (Nf (Yt ((decide ((0:Int)≤(1:Int)∧(1:Int)≤(↑(List.length (AV.agg [i0 (4:Int),i0 c,s0 y]::AV.agg z1::AV.agg z3::r')):Int))&&Nat.beq 3 3)=true∧Nf (U1 [AV.agg z1] [] (Nf (Yt ((decide ((0:Int)≤(1:Int)∧(1:Int)≤(↑(List.length (AV.agg z1::AV.agg z3::r')):Int))&&Nat.beq 3 3)=true∧Nf ((kz != (3:Int))=true∧Nf (inR IntKind.i64 (d+(1:Int)-(1:Int))=true∧Wk (AV.tup [AV.agg [i0 (10:Int),i0 a,i0 m,s0 x,AV.lst true 5 [encP q]],z2]) (AV.tup [AV.agg [i0 (10:Int),i0 a,i0 m,s0 x,AV.lst false 5 [encP q]],z2])∧SameH (hpL [eR 1048577 [0,0] 2 [AV.agg [AV.lst false 3 (AV.agg z3::r'),i0 (d+(1:Int)-(1:Int))]]]) (hpL [eR 1048577 [0,0] 2 [AV.agg [AV.lst false 3 (AV.agg z3::r'),i0 d]]])))))))))))))))))))))):=by kernel_rfl
end Go.Proofs.YtpofhijgccocpaaGreatDoor
end
section
namespace Go.Proofs.YtpofhijgccocpaaGreatDoor
open Go.AS Go.TP
noncomputable section
noncomputable def XA (ts ts':List AV)(d:Int)(n e:AV):WX:=XB.add fPAtom (Sp.con [spP ts ts' d n e])
noncomputable def XAA (ts ts':List AV)(d:Int)(n e:AV)(us us':List AV)(d2:Int)(n2 e2:AV):WX:=XB.add fPAtom (Sp.con [spP ts ts' d n e,spP us us' d2 n2 e2])
abbrev E0:ByteArray:=ByteArray.empty
def kTake (os:Orc)(a:Int)(x:ByteArray)(r:List AV)(d:Int):Prop:=runF (XB.ask askP) 14 fPTake (fn fPTake) (code fPTake) os 0 [] [pArg] (pHeap (tokV 5 a x::r) d) ⟨tokV 5 a x,pHeap r d,[1048577]⟩
def gUp (X:WX)(os:Orc)(a:Int)(x:ByteArray)(r ts':List AV)(d:Int)(n e:AV):Prop:=runF (X.ask askP) 14 fPUp (fn fPUp) (code fPUp) os 0 [] [pArg,tokV 5 a x] (pHeap r d) (pOut ts' d n e)
def uD (os:Orc)(a:Int)(x:ByteArray)(r:List AV):Prop:=gUp XB os a x r r 24 (nodeV 6 a 0 E0 []) (encErr 16 a)
def uN (os:Orc)(a:Int)(x:ByteArray)(r:List AV)(d:Int)(q:Nd)(ts':List AV):Prop:=gUp (XA r ts' (d+1) (encP q) nilE) os a x r ts' d (nodeV 6 a 0 E0 [encP q]) nilE
def uE (os:Orc)(a:Int)(x:ByteArray)(r:List AV)(d:Int)(q:Nd)(ek ea:Int)(ts':List AV):Prop:=gUp (XA r ts' (d+1) (encP q) (encErr ek ea)) os a x r ts' d (nodeV 6 a 0 E0 [encP q]) (encErr ek ea)
def spTake (a:Int)(x:ByteArray)(r:List AV)(d:Int):Sp:=⟨Unit,fun _=>True,fun _=>[pArg],fun _=>pHeap (tokV 5 a x::r) d,fun _=>⟨tokV 5 a x,pHeap r d,[1048577]⟩⟩
def spUp (a:Int)(x:ByteArray)(r ts':List AV)(d:Int)(n e:AV):Sp:=⟨Unit,fun _=>True,fun _=>[pArg,tokV 5 a x],fun _=>pHeap r d,fun _=>pOut ts' d n e⟩
noncomputable def XU (a:Int)(x:ByteArray)(r ts':List AV)(d:Int)(n e:AV):WX:=(XB.add fPTake (Sp.con [spTake a x r d])).add fPUp (Sp.con [spUp a x r ts' d n e])
def rUpN (os:Orc)(a:Int)(x:ByteArray)(r:List AV)(d:Int)(q:Nd)(ts':List AV):Prop:=gP (XU a x r ts' d (encP q) nilE) fPRanged os (tokV 5 a x::r) ts' d (encP q) nilE
def rUpE (os:Orc)(a:Int)(x:ByteArray)(r:List AV)(d:Int)(q:Nd)(ek ea:Int)(ts':List AV):Prop:=gP (XU a x r ts' d (encP q) (encErr ek ea)) fPRanged os (tokV 5 a x::r) ts' d (encP q) (encErr ek ea)
def rAtE (os:Orc)(k a:Int)(x:ByteArray)(r:List AV)(d:Int)(q:Nd)(ek ea:Int)(ts':List AV):Prop:=gP (XA (tokV k a x::r) ts' d (encP q) (encErr ek ea)) fPRanged os (tokV k a x::r) ts' d (encP q) (encErr ek ea)
def rAt0 (os:Orc)(k a:Int)(x:ByteArray)(r:List AV)(d:Int)(q:Nd)(k' a':Int)(x':ByteArray)(r':List AV):Prop :=
 gP (XA (tokV k a x::r) (tokV k' a' x'::r') d (encP q) nilE) fPRanged os (tokV k a x::r) (tokV k' a' x'::r') d (encP q) nilE
def rBetD (os:Orc)(k a:Int)(x:ByteArray)(r:List AV)(q:Nd)(a':Int)(x':ByteArray)(r':List AV):Prop :=
 gP (XA (tokV k a x::r) (tokV 5 a' x'::r') 24 (encP q) nilE) fPRanged os (tokV k a x::r) r' 24 (nodeV 8 a' 0 E0 [encP q]) (encErr 16 a')
def rDown (os:Orc)(k a:Int)(x:ByteArray)(r:List AV)(d:Int)(q:Nd)(a':Int)(x':ByteArray)(k2 a2:Int)(x2:ByteArray)(r':List AV):Prop :=
 gP (XA (tokV k a x::r) (tokV 5 a' x'::tokV k2 a2 x2::r') d (encP q) nilE) fPRanged os (tokV k a x::r) (tokV k2 a2 x2::r') d (nodeV 7 a' 0 E0 [encP q]) nilE
def gP1 (X:WX)(f:Nat)(os:Orc)(ts ts':List AV)(d:Int)(n e:AV):Prop:=runF (X.ask askP) 14 f (fn f) (code f) os 1 [] [pArg] (pHeap ts d) (pOut ts' d n e)
def rBet (os:Orc)(k a:Int)(x:ByteArray)(r:List AV)(d:Int)(q:Nd)(a':Int)(x':ByteArray)(k2 a2:Int)(x2:ByteArray)(r':List AV)(q2:Nd)(e2:AV)(ts':List AV):Prop :=
 gP1 (XAA (tokV k a x::r) (tokV 5 a' x'::tokV k2 a2 x2::r') d (encP q) nilE (tokV k2 a2 x2::r') ts' (d+1) (encP q2) e2) fPRanged os (tokV k a x::r) ts' d (nodeV 8 a' 0 E0 [encP q,encP q2]) e2
def rBet2N (os:Orc)(k a:Int)(x:ByteArray)(r:List AV)(d:Int)(q:Nd)(a':Int)(x':ByteArray)(a2:Int)(x2:ByteArray)(r':List AV)(q2:Nd)(ts':List AV):Prop:=rBet os k a x r d q a' x' 2 a2 x2 r' q2 nilE ts'
def rBet2E (os:Orc)(k a:Int)(x:ByteArray)(r:List AV)(d:Int)(q:Nd)(a':Int)(x':ByteArray)(a2:Int)(x2:ByteArray)(r':List AV)(q2:Nd)(ek ea:Int)(ts':List AV):Prop:=rBet os k a x r d q a' x' 2 a2 x2 r' q2 (encErr ek ea) ts'
def rBet1N (os:Orc)(k a:Int)(x:ByteArray)(r:List AV)(d:Int)(q:Nd)(a':Int)(x':ByteArray)(a2:Int)(x2:ByteArray)(r':List AV)(q2:Nd)(ts':List AV):Prop:=rBet os k a x r d q a' x' 1 a2 x2 r' q2 nilE ts'
def rBet1E (os:Orc)(k a:Int)(x:ByteArray)(r:List AV)(d:Int)(q:Nd)(a':Int)(x':ByteArray)(a2:Int)(x2:ByteArray)(r':List AV)(q2:Nd)(ek ea:Int)(ts':List AV):Prop:=rBet os k a x r d q a' x' 1 a2 x2 r' q2 (encErr ek ea) ts'
def rOnly (os:Orc)(k a:Int)(x:ByteArray)(r:List AV)(d:Int)(q:Nd)(a':Int)(x':ByteArray)(r':List AV)(q2:Nd)(e2:AV)(ts':List AV):Prop :=
 gP1 (XAA (tokV k a x::r) (tokV 6 a' x'::r') d (encP q) nilE r' ts' d (encP q2) e2) fPRanged os (tokV k a x::r) ts' d (nodeV 9 a' 0 E0 [encP q,encP q2]) e2
def rOnlyN (os:Orc)(k a:Int)(x:ByteArray)(r:List AV)(d:Int)(q:Nd)(a':Int)(x':ByteArray)(r':List AV)(q2:Nd)(ts':List AV):Prop:=rOnly os k a x r d q a' x' r' q2 nilE ts'
def rOnlyE (os:Orc)(k a:Int)(x:ByteArray)(r:List AV)(d:Int)(q:Nd)(a':Int)(x':ByteArray)(r':List AV)(q2:Nd)(ek ea:Int)(ts':List AV):Prop:=rOnly os k a x r d q a' x' r' q2 (encErr ek ea) ts'
def tNotD (os:Orc)(a:Int)(x:ByteArray)(r:List AV):Prop:=gP XB fPPart os (tokV 10 a x::r) r 24 (nodeV 5 a 0 E0 []) (encErr 16 a)
def tNot (os:Orc)(a:Int)(x:ByteArray)(r:List AV)(d:Int)(q:Nd)(e:AV)(ts':List AV):Prop :=
 gP (XB.add fPPart (Sp.con [spP r ts' (d+1) (encP q) e])) fPPart os (tokV 10 a x::r) ts' d (nodeV 5 a 0 E0 [encP q]) e
def tNotN (os:Orc)(a:Int)(x:ByteArray)(r:List AV)(d:Int)(q:Nd)(ts':List AV):Prop:=tNot os a x r d q nilE ts'
def tNotE (os:Orc)(a:Int)(x:ByteArray)(r:List AV)(d:Int)(q:Nd)(ek ea:Int)(ts':List AV):Prop:=tNot os a x r d q (encErr ek ea) ts'
def tRan (os:Orc)(k a:Int)(x:ByteArray)(r:List AV)(d:Int)(q:Nd)(e:AV)(ts':List AV):Prop :=
 gP (XB.add fPRanged (Sp.con [spP (tokV k a x::r) ts' d (encP q) e])) fPPart os (tokV k a x::r) ts' d (encP q) e
def tRanN (os:Orc)(k a:Int)(x:ByteArray)(r:List AV)(d:Int)(q:Nd)(ts':List AV):Prop:=tRan os k a x r d q nilE ts'
def tRanE (os:Orc)(k a:Int)(x:ByteArray)(r:List AV)(d:Int)(q:Nd)(ek ea:Int)(ts':List AV):Prop:=tRan os k a x r d q (encErr ek ea) ts'
structure Ch where
 f:Nat
 ks:List Value
 vs:List AV
abbrev chE:Ch:=⟨fPTerm,[.int .i64 7, .int .i64 8],[i0 2,i0 3]⟩
abbrev chT:Ch:=⟨fPPart,[.int .i64 9],[i0 4]⟩
def cArgs (c:Ch)(e:AV):List AV:=[.ptr 1048580 [3,0] 0 0, .mp 1048579 [2,0], .fn (.func c.f) [.ptr 1048580 [3,0] 0 0] [], .ptr 1048578 [1,0] 0 0, .ptr 1048577 [0,0] 0 0,e]
def cHeap (c:Ch)(ts:List AV)(d:Int)(n:AV):Hp:=hpL [(1048579,⟨[2,0], .map true c.ks c.vs⟩),(1048577,⟨[0,0], .row true 5 [n]⟩),
 (1048580,⟨[3,0], .row true 2 [.agg [.lst false 3 ts,i0 d]]⟩),(1048578,⟨[1,0], .row true 5 [.agg [i0 0,i0 0,i0 0,s0 E0, .lit (.slice none 0 0)]]⟩)]
def cOut (c:Ch)(ts:List AV)(d:Int)(n e:AV):Ex × Back:=(.exit 0,⟨.tup [.ptr 1048578 [1,0] 0 0, .ptr 1048577 [0,0] 0 0,e],cHeap c ts d n,[1048577,1048580]⟩)
abbrev lpCh (c:Ch)(P:Prop)(ts:List AV)(d:Int)(n e:AV)(r:Ex × Back):Lp:=Lp1W [0,1,2,6,8,9] [] (fun _=>[6,8,9]) P (cArgs c e) (cHeap c ts d n) r
noncomputable def XC (c:Ch)(ts ts':List AV)(d:Int)(n e:AV):WX:=XB.add c.f (Sp.con [spP ts ts' d n e])
def rCh (X:WX)(os:Orc)(c:Ch)(P:Prop)(ts:List AV)(d:Int)(n e:AV)(us:List AV)(n' e':AV)(r' r:Ex × Back):Prop :=
 runL (X.ask (fPChain::askP)) 14 fPChain (fn fPChain).ntmps (loopAt (code fPChain) 0) (lpCh c P us d n' e' r') (lpCh c P us d n' e' r') os 0 [] (cArgs c e) (cHeap c ts d n) r
def cX (os:Orc)(c:Ch)(P:Prop)(k a:Int)(x:ByteArray)(r:List AV)(d:Int)(n:Nd):Prop :=
 rCh XB os c P (tokV k a x::r) d (encP n) nilE [] (encP n) nilE (cOut c [] d (encP n) nilE) (cOut c (tokV k a x::r) d (encP n) nilE)
def cXe (os:Orc)(k a:Int)(x:ByteArray)(r:List AV)(d:Int)(n:Nd):Prop:=cX os chE False k a x r d n
def cXt (os:Orc)(k a:Int)(x:ByteArray)(r:List AV)(d:Int)(n:Nd):Prop:=cX os chT False k a x r d n
def cE (os:Orc)(c:Ch)(ts:List AV)(d:Int)(n:Nd)(ek ea:Int):Prop:=rCh XB os c False ts d (encP n) (encErr ek ea) [] (encP n) nilE (cOut c [] d (encP n) nilE) (cOut c ts d (encP n) (encErr ek ea))
def cEe (os:Orc)(ts:List AV)(d:Int)(n:Nd)(ek ea:Int):Prop:=cE os chE ts d n ek ea
def cEt (os:Orc)(ts:List AV)(d:Int)(n:Nd)(ek ea:Int):Prop:=cE os chT ts d n ek ea
def cR (os:Orc)(c:Ch)(k kk a:Int)(x:ByteArray)(r:List AV)(d:Int)(n q:Nd)(e:AV)(us zs:List AV)(m:Nd)(ef:AV):Prop :=
 rCh (XC c r us d (encP q) e) os c True (tokV k a x::r) d (encP n) nilE us (nodeV kk a 0 E0 [encP n,encP q]) e (cOut c zs d (encP m) ef) (cOut c zs d (encP m) ef)
def cR7N (os:Orc)(a:Int)(x:ByteArray)(r:List AV)(d:Int)(n q:Nd)(us zs:List AV)(m:Nd):Prop:=cR os chE 7 2 a x r d n q nilE us zs m nilE
def cR7F (os:Orc)(a:Int)(x:ByteArray)(r:List AV)(d:Int)(n q:Nd)(us zs:List AV)(m:Nd)(fk fa:Int):Prop:=cR os chE 7 2 a x r d n q nilE us zs m (encErr fk fa)
def cR7E (os:Orc)(a:Int)(x:ByteArray)(r:List AV)(d:Int)(n q:Nd)(us zs:List AV)(m:Nd)(ek ea fk fa:Int):Prop:=cR os chE 7 2 a x r d n q (encErr ek ea) us zs m (encErr fk fa)
def cR8N (os:Orc)(a:Int)(x:ByteArray)(r:List AV)(d:Int)(n q:Nd)(us zs:List AV)(m:Nd):Prop:=cR os chE 8 3 a x r d n q nilE us zs m nilE
def cR8F (os:Orc)(a:Int)(x:ByteArray)(r:List AV)(d:Int)(n q:Nd)(us zs:List AV)(m:Nd)(fk fa:Int):Prop:=cR os chE 8 3 a x r d n q nilE us zs m (encErr fk fa)
def cR8E (os:Orc)(a:Int)(x:ByteArray)(r:List AV)(d:Int)(n q:Nd)(us zs:List AV)(m:Nd)(ek ea fk fa:Int):Prop:=cR os chE 8 3 a x r d n q (encErr ek ea) us zs m (encErr fk fa)
def cR9N (os:Orc)(a:Int)(x:ByteArray)(r:List AV)(d:Int)(n q:Nd)(us zs:List AV)(m:Nd):Prop:=cR os chT 9 4 a x r d n q nilE us zs m nilE
def cR9F (os:Orc)(a:Int)(x:ByteArray)(r:List AV)(d:Int)(n q:Nd)(us zs:List AV)(m:Nd)(fk fa:Int):Prop:=cR os chT 9 4 a x r d n q nilE us zs m (encErr fk fa)
def cR9E (os:Orc)(a:Int)(x:ByteArray)(r:List AV)(d:Int)(n q:Nd)(us zs:List AV)(m:Nd)(ek ea fk fa:Int):Prop:=cR os chT 9 4 a x r d n q (encErr ek ea) us zs m (encErr fk fa)
def gCh (os:Orc)(f:Nat)(c:Ch)(ts us:List AV)(d:Int)(q:Nd)(e:AV)(zs:List AV)(m:Nd)(ef:AV):Prop :=
 gP ((XC c ts us d (encP q) e).addLp fPChain 0 (lpCh c True us d (encP q) e (cOut c zs d (encP m) ef))) f os ts zs d (encP m) ef
def gExN (os:Orc)(ts us:List AV)(d:Int)(q:Nd)(zs:List AV)(m:Nd):Prop:=gCh os fPExpr chE ts us d q nilE zs m nilE
def gExF (os:Orc)(ts us:List AV)(d:Int)(q:Nd)(zs:List AV)(m:Nd)(fk fa:Int):Prop:=gCh os fPExpr chE ts us d q nilE zs m (encErr fk fa)
def gExE (os:Orc)(ts us:List AV)(d:Int)(q:Nd)(zs:List AV)(m:Nd)(ek ea fk fa:Int):Prop:=gCh os fPExpr chE ts us d q (encErr ek ea) zs m (encErr fk fa)
def gTeN (os:Orc)(ts us:List AV)(d:Int)(q:Nd)(zs:List AV)(m:Nd):Prop:=gCh os fPTerm chT ts us d q nilE zs m nilE
def gTeF (os:Orc)(ts us:List AV)(d:Int)(q:Nd)(zs:List AV)(m:Nd)(fk fa:Int):Prop:=gCh os fPTerm chT ts us d q nilE zs m (encErr fk fa)
def gTeE (os:Orc)(ts us:List AV)(d:Int)(q:Nd)(zs:List AV)(m:Nd)(ek ea fk fa:Int):Prop:=gCh os fPTerm chT ts us d q (encErr ek ea) zs m (encErr fk fa)
end
end Go.Proofs.YtpofhijgccocpaaGreatDoor
end
section
namespace Go.Proofs.YtpofhijgccocpaaGreatDoor
open Go Go.AS Go.TP
noncomputable abbrev qVP20:=eR 1048578 [1,0] 5 [AV.agg [i0 (0:Int),i0 (0:Int),i0 (0:Int),s0 ByteArray.empty,AV.lit (Value.slice none 0 0)]]
noncomputable abbrev qVP21:=[Value.int IntKind.i64 (7:Int),Value.int IntKind.i64 (8:Int)]
noncomputable abbrev qVP22:=[AV.ptr 1048580 [3,0] 0 0,AV.mp 1048579 [2,0],AV.fn (Fn.func 89) [AV.ptr 1048580 [3,0] 0 0] [],AV.ptr 1048578 [1,0] 0 0,AV.ptr 1048577 [0,0] 0 0,AV.lit Value.nilIface]
noncomputable abbrev qVP23 (fa:Int)(fk:Int):=(AV.tup [AV.ptr 1048578 [1,0] 0 0,AV.ptr 1048577 [0,0] 0 0,AV.iface 118 (AV.ref (AV.agg [i0 fa,AV.iface 26 (i0 fk)]))])
noncomputable abbrev qVP24:=[AV.ptr 1048580 [3,0] 0 0,AV.mp 1048579 [2,0],AV.fn (Fn.func 116) [AV.ptr 1048580 [3,0] 0 0] [],AV.ptr 1048578 [1,0] 0 0,AV.ptr 1048577 [0,0] 0 0,AV.lit Value.nilIface]
noncomputable abbrev qVP25 (us:List AV)(d:Int):=eR 1048580 [3,0] 2 [AV.agg [AV.lst false 3 us,i0 d]]
noncomputable abbrev qVP26:=(true&&(true&&(true&&(true&&Option.isSome (some ())))))
noncomputable abbrev qVP27 (ea:Int)(ek:Int):=[AV.ptr 1048580 [3,0] 0 0,AV.mp 1048579 [2,0],AV.fn (Fn.func 89) [AV.ptr 1048580 [3,0] 0 0] [],AV.ptr 1048578 [1,0] 0 0,AV.ptr 1048577 [0,0] 0 0,AV.iface 118 (AV.ref (AV.agg [i0 ea,AV.iface 26 (i0 ek)]))]
noncomputable abbrev qVP28 (ts:List AV)(d:Int):=(True∧Wks [AV.ptr 1048577 [0,0] 0 0] [AV.ptr 1048577 [0,0] 0 0]∧hpL [eR 1048577 [0,0] 2 [AV.agg [AV.lst false 3 ts,i0 d]]]=hpL [eR 1048577 [0,0] 2 [AV.agg [AV.lst false 3 ts,i0 d]]])
noncomputable abbrev qVP29:=(AV.tup [AV.ptr 1048578 [1,0] 0 0,AV.ptr 1048577 [0,0] 0 0,AV.lit Value.nilIface])
noncomputable abbrev qVP210 (zs:List AV)(d:Int):=eR 1048580 [3,0] 2 [AV.agg [AV.lst false 3 zs,i0 d]]
noncomputable abbrev qVP211 (k:Int)(a:Int)(x:ByteArray)(r:List AV)(d:Int):=(True∧Wks [AV.ptr 1048577 [0,0] 0 0] [AV.ptr 1048577 [0,0] 0 0]∧hpL [eR 1048577 [0,0] 2 [AV.agg [AV.lst false 3 (AV.agg [i0 k,i0 a,s0 x]::r),i0 d]]]=hpL [eR 1048577 [0,0] 2 [AV.agg [AV.lst false 3 (AV.agg [i0 k,i0 a,s0 x]::r),i0 d]]])
noncomputable abbrev qVP212 (ea:Int)(ek:Int):=[AV.ptr 1048580 [3,0] 0 0,AV.mp 1048579 [2,0],AV.fn (Fn.func 116) [AV.ptr 1048580 [3,0] 0 0] [],AV.ptr 1048578 [1,0] 0 0,AV.ptr 1048577 [0,0] 0 0,AV.iface 118 (AV.ref (AV.agg [i0 ea,AV.iface 26 (i0 ek)]))]
noncomputable abbrev qVP213 (zs:List AV)(d:Int):=(hpL [eR 1048577 [0,0] 2 [AV.agg [AV.lst false 3 zs,i0 d]]])
theorem kTake_vc (a:Int)(x:ByteArray)(r:List AV)(d:Int):kTake (Orc.t Orc.z) a x r d=(let z1:=[i0 (5:Int),i0 a,s0 x]; Yt ((decide ((0:Int)≤(1:Int)∧(1:Int)≤(↑(List.length (AV.agg z1::r)):Int))&&true)=true∧Wk (AV.agg z1) (AV.agg z1)∧SameH (hpL [eR 1048577 [0,0] 2 [AV.agg [AV.lst false 3 (List.drop 1 (AV.agg z1::r)),i0 d]]]) (hpL [eR 1048577 [0,0] 2 [AV.agg [AV.lst false 3 r,i0 d]]]))):=by kernel_rfl
theorem uD_vc (a:Int)(x:ByteArray)(r:List AV):uD (Orc.t (Orc.f Orc.z)) a x r=(let z1:=(hpL [eR 1048577 [0,0] 2 [AV.agg [AV.lst false 3 r,i0 (24:Int)]]]); let z2:=AV.iface 118 (AV.ref (AV.agg [i0 a,AV.iface 26 (i0 (16:Int))])); Yt (Nf (Wk (AV.tup [AV.agg [i0 (6:Int),i0 a,i0 (0:Int),s0 ⟨⟨[]⟩⟩,AV.lit (Value.slice none 0 0)],z2]) (AV.tup [AV.agg [i0 (6:Int),i0 a,i0 (0:Int),s0 ByteArray.empty,AV.lst false 5 []],z2])∧SameH z1 z1))):=by kernel_rfl
theorem uN_vc (a:Int)(x:ByteArray)(r:List AV)(d:Int)(q:Nd)(ts':List AV):uN (Orc.f Orc.z) a x r d q ts'=(let z1:=[eR 1048577 [0,0] 2 [AV.agg [AV.lst false 3 r,i0 (d+(1:Int))]]]; (d==(24:Int))=false∧inR IntKind.i64 (d+(1:Int))=true∧U1 [AV.ptr 1048577 [0,0] 0 0] z1 (inR IntKind.i64 (d+(1:Int)-(1:Int))=true∧Wk (AV.tup [AV.agg [i0 (6:Int),i0 a,i0 (0:Int),s0 ⟨⟨[]⟩⟩,AV.lst true 5 [encP q]],AV.lit Value.nilIface]) (AV.tup [AV.agg [i0 (6:Int),i0 a,i0 (0:Int),s0 ByteArray.empty,AV.lst false 5 [encP q]],AV.lit Value.nilIface])∧SameH (hpL [eR 1048577 [0,0] 2 [AV.agg [AV.lst false 3 ts',i0 (d+(1:Int)-(1:Int))]]]) (hpL [eR 1048577 [0,0] 2 [AV.agg [AV.lst false 3 ts',i0 d]]]))):=by kernel_rfl
theorem uE_vc (a:Int)(x:ByteArray)(r:List AV)(d:Int)(q:Nd)(ek ea:Int)(ts':List AV):uE (Orc.f Orc.z) a x r d q ek ea ts'=(let z1:=[eR 1048577 [0,0] 2 [AV.agg [AV.lst false 3 r,i0 (d+(1:Int))]]]; let z2:=AV.iface 118 (AV.ref (AV.agg [i0 ea,AV.iface 26 (i0 ek)])); (d==(24:Int))=false∧inR IntKind.i64 (d+(1:Int))=true∧U1 [AV.ptr 1048577 [0,0] 0 0] z1 (inR IntKind.i64 (d+(1:Int)-(1:Int))=true∧Wk (AV.tup [AV.agg [i0 (6:Int),i0 a,i0 (0:Int),s0 ⟨⟨[]⟩⟩,AV.lst true 5 [encP q]],z2]) (AV.tup [AV.agg [i0 (6:Int),i0 a,i0 (0:Int),s0 ByteArray.empty,AV.lst false 5 [encP q]],z2])∧SameH (hpL [eR 1048577 [0,0] 2 [AV.agg [AV.lst false 3 ts',i0 (d+(1:Int)-(1:Int))]]]) (hpL [eR 1048577 [0,0] 2 [AV.agg [AV.lst false 3 ts',i0 d]]]))):=by kernel_rfl
theorem rUpN_vc (a:Int)(x:ByteArray)(r:List AV)(d:Int)(q:Nd)(ts':List AV):rUpN (Orc.t Orc.z) a x r d q ts'=(let z1:=[eR 1048577 [0,0] 2 [AV.agg [AV.lst false 3 (AV.agg [i0 (5:Int),i0 a,s0 x]::r),i0 d]]]; let z2:=AV.ptr 1048577 [0,0] 0 0; let z3:=(hpL [eR 1048577 [0,0] 2 [AV.agg [AV.lst false 3 ts',i0 d]]]); let z4:=[eR 1048577 [0,0] 2 [AV.agg [AV.lst false 3 r,i0 d]]]; let z5:=(AV.tup [encP q,AV.lit Value.nilIface]); let z6:=[z2,AV.agg [i0 (5:Int),i0 a,s0 x]]; Yt (U1 [z2] z1 (U1 z6 z4 (Wk z5 z5∧SameH z3 z3)))):=by kernel_rfl
theorem rUpE_vc (a:Int)(x:ByteArray)(r:List AV)(d:Int)(q:Nd)(ek ea:Int)(ts':List AV):rUpE (Orc.t Orc.z) a x r d q ek ea ts'=(let z1:=[eR 1048577 [0,0] 2 [AV.agg [AV.lst false 3 (AV.agg [i0 (5:Int),i0 a,s0 x]::r),i0 d]]]; let z2:=(AV.tup [encP q,AV.iface 118 (AV.ref (AV.agg [i0 ea,AV.iface 26 (i0 ek)]))]); let z3:=AV.ptr 1048577 [0,0] 0 0; let z4:=(hpL [eR 1048577 [0,0] 2 [AV.agg [AV.lst false 3 ts',i0 d]]]); let z5:=[eR 1048577 [0,0] 2 [AV.agg [AV.lst false 3 r,i0 d]]]; let z6:=[z3,AV.agg [i0 (5:Int),i0 a,s0 x]]; Yt (U1 [z3] z1 (U1 z6 z5 (Wk z2 z2∧SameH z4 z4)))):=by kernel_rfl
theorem rAtE_vc (k a:Int)(x:ByteArray)(r:List AV)(d:Int)(q:Nd)(ek ea:Int)(ts':List AV):rAtE (Orc.f (Orc.t Orc.z)) k a x r d q ek ea ts'=(let z1:=[eR 1048577 [0,0] 2 [AV.agg [AV.lst false 3 (AV.agg [i0 k,i0 a,s0 x]::r),i0 d]]]; let z2:=(AV.tup [encP q,AV.iface 118 (AV.ref (AV.agg [i0 ea,AV.iface 26 (i0 ek)]))]); let z3:=(hpL [eR 1048577 [0,0] 2 [AV.agg [AV.lst false 3 ts',i0 d]]]); (k==(5:Int))=false∧U1 [AV.ptr 1048577 [0,0] 0 0] z1 (Yt (Wk z2 z2∧SameH z3 z3))):=by kernel_rfl
def orAt0:Orc:=Orc.f (Orc.f (Orc.f (Orc.f Orc.z)))
theorem rAt0_vc (k a:Int)(x:ByteArray)(r:List AV)(d:Int)(q:Nd)(k' a':Int)(x':ByteArray)(r':List AV):rAt0 orAt0 k a x r d q k' a' x' r'=(let z1:=(hpL [eR 1048577 [0,0] 2 [AV.agg [AV.lst false 3 (AV.agg [i0 k',i0 a',s0 x']::r'),i0 d]]]); let z2:=(AV.tup [encP q,AV.lit Value.nilIface]); (k==(5:Int))=false∧∃ (_:Unit),(qVP211 k a x r d)∧Nf ((k'==(5:Int))=false∧(k'==(6:Int))=false∧Wk z2 z2∧SameH z1 z1)):=by kernel_rfl
def orBetD:Orc:=Orc.f (Orc.f (Orc.t (Orc.t (Orc.t (Orc.f Orc.z)))))
theorem rBetD_vc (k a:Int)(x:ByteArray)(r:List AV)(q:Nd)(a':Int)(x':ByteArray)(r':List AV):rBetD orBetD k a x r q a' x' r'=(let z1:=[eR 1048577 [0,0] 2 [AV.agg [AV.lst false 3 (AV.agg [i0 k,i0 a,s0 x]::r),i0 (24:Int)]]]; let z2:=AV.iface 118 (AV.ref (AV.agg [i0 a',AV.iface 26 (i0 (16:Int))])); let z3:=(AV.agg [i0 (5:Int),i0 a',s0 x']::r'); (k==(5:Int))=false∧U1 [AV.ptr 1048577 [0,0] 0 0] z1 (Nf (Yt (Yt ((decide ((0:Int)≤(1:Int)∧(1:Int)≤(↑(List.length z3):Int))&&Nat.beq 3 3)=true∧Yt (Nf (Wk (AV.tup [AV.agg [i0 (8:Int),i0 a',i0 (0:Int),s0 ⟨⟨[]⟩⟩,AV.lst true 5 [encP q]],z2]) (AV.tup [AV.agg [i0 (8:Int),i0 a',i0 (0:Int),s0 ByteArray.empty,AV.lst false 5 [encP q]],z2])∧SameH (hpL [eR 1048577 [0,0] 2 [AV.agg [AV.lst false 3 (List.drop 1 z3),i0 (24:Int)]]]) (hpL [eR 1048577 [0,0] 2 [AV.agg [AV.lst false 3 r',i0 (24:Int)]]])))))))):=by kernel_rfl
def orDown:Orc:=Orc.f (Orc.f (Orc.t (Orc.t (Orc.f (HT (Orc.f (Orc.f (Orc.t (Orc.t Orc.z)))))))))
theorem rDown_vc (k a:Int)(x:ByteArray)(r:List AV)(d:Int)(q:Nd)(a':Int)(x':ByteArray)(k2 a2:Int)(x2:ByteArray)(r':List AV):rDown orDown k a x r d q a' x' k2 a2 x2 r'=(let z1:=AV.lst false 3 (AV.agg [i0 k2,i0 a2,s0 x2]::r'); (k==(5:Int))=false∧∃ (_:Unit),(qVP211 k a x r d)∧Nf (Yt (Yt ((decide ((0:Int)≤(1:Int)∧(1:Int)≤(↑(List.length (AV.agg [i0 (5:Int),i0 a',s0 x']::AV.agg [i0 k2,i0 a2,s0 x2]::r')):Int))&&Nat.beq 3 3)=true∧(d==(24:Int))=false∧inR IntKind.i64 (d+(1:Int))=true∧Yt4 ((k2==(2:Int))=false∧(k2==(1:Int))=false∧Yt (Yt (inR IntKind.i64 (d+(1:Int)-(1:Int))=true∧Wk (AV.tup [AV.agg [i0 (7:Int),i0 a',i0 (0:Int),s0 ⟨⟨[]⟩⟩,AV.lst true 5 [encP q]],AV.lit Value.nilIface]) (AV.tup [AV.agg [i0 (7:Int),i0 a',i0 (0:Int),s0 ByteArray.empty,AV.lst false 5 [encP q]],AV.lit Value.nilIface])∧SameH (hpL [eR 1048577 [0,0] 2 [AV.agg [z1,i0 (d+(1:Int)-(1:Int))]]]) (hpL [eR 1048577 [0,0] 2 [AV.agg [z1,i0 d]]])))))))):=by kernel_rfl
def orBet2N:Orc:=Orc.f (Orc.alt 0 (Orc.f (Orc.t (Orc.t (Orc.f (HT (Orc.t (Orc.t (Orc.f (Orc.alt 1 Orc.z))))))))))
theorem rBet2N_vc (k a:Int)(x:ByteArray)(r:List AV)(d:Int)(q:Nd)(a':Int)(x':ByteArray)(a2:Int)(x2:ByteArray)(r':List AV)(q2:Nd)(ts':List AV):rBet2N orBet2N k a x r d q a' x' a2 x2 r' q2 ts'=(let z1:=[encP q,encP q2]; let z2:=[eR 1048577 [0,0] 2 [AV.agg [AV.lst false 3 (AV.agg [i0 (2:Int),i0 a2,s0 x2]::r'),i0 (d+(1:Int))]]]; let z3:=[eR 1048577 [0,0] 2 [AV.agg [AV.lst false 3 (AV.agg [i0 k,i0 a,s0 x]::r),i0 d]]]; let z4:=[AV.ptr 1048577 [0,0] 0 0]; (k==(5:Int))=false∧U1 z4 z3 (Nf (Yt (Yt ((decide ((0:Int)≤(1:Int)∧(1:Int)≤(↑(List.length (AV.agg [i0 (5:Int),i0 a',s0 x']::AV.agg [i0 (2:Int),i0 a2,s0 x2]::r')):Int))&&Nat.beq 3 3)=true∧(d==(24:Int))=false∧inR IntKind.i64 (d+(1:Int))=true∧Yt4 (Yt (Yt (Nf (U1 z4 z2 (decide (List.length z1*64≤140737488355328∧List.length z1≤1152921504606846976)=true∧inR IntKind.i64 (d+(1:Int)-(1:Int))=true∧0+List.length z1≤List.length z1∧0+List.length z1≤List.length z1∧0+List.length z1≤List.length z1∧0+List.length z1≤List.length z1∧0+List.length z1≤List.length z1∧Wk (AV.tup [AV.agg [i0 (8:Int),i0 a',i0 (0:Int),s0 ⟨⟨[]⟩⟩,AV.lst false 5 z1],AV.lit Value.nilIface]) (AV.tup [AV.agg [i0 (8:Int),i0 a',i0 (0:Int),s0 ByteArray.empty,AV.lst false 5 z1],AV.lit Value.nilIface])∧SameH (hpL [eR 1048577 [0,0] 2 [AV.agg [AV.lst false 3 ts',i0 (d+(1:Int)-(1:Int))]]]) (hpL [eR 1048577 [0,0] 2 [AV.agg [AV.lst false 3 ts',i0 d]]]))))))))))):=by kernel_rfl
def orBet2E:Orc:=Orc.f (Orc.alt 0 (Orc.f (Orc.t (Orc.t (Orc.f (HT (Orc.t (Orc.t (Orc.f (Orc.alt 1 Orc.z))))))))))
theorem rBet2E_vc (k a:Int)(x:ByteArray)(r:List AV)(d:Int)(q:Nd)(a':Int)(x':ByteArray)(a2:Int)(x2:ByteArray)(r':List AV)(q2:Nd)(ek ea:Int)(ts':List AV):rBet2E orBet2E k a x r d q a' x' a2 x2 r' q2 ek ea ts'=(let z1:=[encP q,encP q2]; let z2:=[eR 1048577 [0,0] 2 [AV.agg [AV.lst false 3 (AV.agg [i0 (2:Int),i0 a2,s0 x2]::r'),i0 (d+(1:Int))]]]; let z3:=[eR 1048577 [0,0] 2 [AV.agg [AV.lst false 3 (AV.agg [i0 k,i0 a,s0 x]::r),i0 d]]]; let z4:=[AV.ptr 1048577 [0,0] 0 0]; let z5:=AV.iface 118 (AV.ref (AV.agg [i0 ea,AV.iface 26 (i0 ek)])); (k==(5:Int))=false∧U1 z4 z3 (Nf (Yt (Yt ((decide ((0:Int)≤(1:Int)∧(1:Int)≤(↑(List.length (AV.agg [i0 (5:Int),i0 a',s0 x']::AV.agg [i0 (2:Int),i0 a2,s0 x2]::r')):Int))&&Nat.beq 3 3)=true∧(d==(24:Int))=false∧inR IntKind.i64 (d+(1:Int))=true∧Yt4 (Yt (Yt (Nf (U1 z4 z2 (decide (List.length z1*64≤140737488355328∧List.length z1≤1152921504606846976)=true∧inR IntKind.i64 (d+(1:Int)-(1:Int))=true∧0+List.length z1≤List.length z1∧0+List.length z1≤List.length z1∧0+List.length z1≤List.length z1∧0+List.length z1≤List.length z1∧0+List.length z1≤List.length z1∧Wk (AV.tup [AV.agg [i0 (8:Int),i0 a',i0 (0:Int),s0 ⟨⟨[]⟩⟩,AV.lst false 5 z1],z5]) (AV.tup [AV.agg [i0 (8:Int),i0 a',i0 (0:Int),s0 ByteArray.empty,AV.lst false 5 z1],z5])∧SameH (hpL [eR 1048577 [0,0] 2 [AV.agg [AV.lst false 3 ts',i0 (d+(1:Int)-(1:Int))]]]) (hpL [eR 1048577 [0,0] 2 [AV.agg [AV.lst false 3 ts',i0 d]]]))))))))))):=by kernel_rfl
def orBet1N:Orc:=Orc.f (Orc.alt 0 (Orc.f (Orc.t (Orc.t (Orc.f (HT (Orc.f (Orc.t (Orc.t (Orc.f (Orc.alt 1 Orc.z)))))))))))
theorem rBet1N_vc (k a:Int)(x:ByteArray)(r:List AV)(d:Int)(q:Nd)(a':Int)(x':ByteArray)(a2:Int)(x2:ByteArray)(r':List AV)(q2:Nd)(ts':List AV):rBet1N orBet1N k a x r d q a' x' a2 x2 r' q2 ts'=(let z1:=[encP q,encP q2]; let z2:=[eR 1048577 [0,0] 2 [AV.agg [AV.lst false 3 (AV.agg [i0 (1:Int),i0 a2,s0 x2]::r'),i0 (d+(1:Int))]]]; let z3:=[eR 1048577 [0,0] 2 [AV.agg [AV.lst false 3 (AV.agg [i0 k,i0 a,s0 x]::r),i0 d]]]; let z4:=[AV.ptr 1048577 [0,0] 0 0]; (k==(5:Int))=false∧U1 z4 z3 (Nf (Yt (Yt ((decide ((0:Int)≤(1:Int)∧(1:Int)≤(↑(List.length (AV.agg [i0 (5:Int),i0 a',s0 x']::AV.agg [i0 (1:Int),i0 a2,s0 x2]::r')):Int))&&Nat.beq 3 3)=true∧(d==(24:Int))=false∧inR IntKind.i64 (d+(1:Int))=true∧Yt4 (Nf (Yt (Yt (Nf (U1 z4 z2 (decide (List.length z1*64≤140737488355328∧List.length z1≤1152921504606846976)=true∧inR IntKind.i64 (d+(1:Int)-(1:Int))=true∧0+List.length z1≤List.length z1∧0+List.length z1≤List.length z1∧0+List.length z1≤List.length z1∧0+List.length z1≤List.length z1∧0+List.length z1≤List.length z1∧Wk (AV.tup [AV.agg [i0 (8:Int),i0 a',i0 (0:Int),s0 ⟨⟨[]⟩⟩,AV.lst false 5 z1],AV.lit Value.nilIface]) (AV.tup [AV.agg [i0 (8:Int),i0 a',i0 (0:Int),s0 ByteArray.empty,AV.lst false 5 z1],AV.lit Value.nilIface])∧SameH (hpL [eR 1048577 [0,0] 2 [AV.agg [AV.lst false 3 ts',i0 (d+(1:Int)-(1:Int))]]]) (hpL [eR 1048577 [0,0] 2 [AV.agg [AV.lst false 3 ts',i0 d]]])))))))))))):=by kernel_rfl
def orBet1E:Orc:=Orc.f (Orc.alt 0 (Orc.f (Orc.t (Orc.t (Orc.f (HT (Orc.f (Orc.t (Orc.t (Orc.f (Orc.alt 1 Orc.z)))))))))))
theorem rBet1E_vc (k a:Int)(x:ByteArray)(r:List AV)(d:Int)(q:Nd)(a':Int)(x':ByteArray)(a2:Int)(x2:ByteArray)(r':List AV)(q2:Nd)(ek ea:Int)(ts':List AV):rBet1E orBet1E k a x r d q a' x' a2 x2 r' q2 ek ea ts'=(let z1:=[encP q,encP q2]; let z2:=[eR 1048577 [0,0] 2 [AV.agg [AV.lst false 3 (AV.agg [i0 (1:Int),i0 a2,s0 x2]::r'),i0 (d+(1:Int))]]]; let z3:=[eR 1048577 [0,0] 2 [AV.agg [AV.lst false 3 (AV.agg [i0 k,i0 a,s0 x]::r),i0 d]]]; let z4:=[AV.ptr 1048577 [0,0] 0 0]; let z5:=AV.iface 118 (AV.ref (AV.agg [i0 ea,AV.iface 26 (i0 ek)])); (k==(5:Int))=false∧U1 z4 z3 (Nf (Yt (Yt ((decide ((0:Int)≤(1:Int)∧(1:Int)≤(↑(List.length (AV.agg [i0 (5:Int),i0 a',s0 x']::AV.agg [i0 (1:Int),i0 a2,s0 x2]::r')):Int))&&Nat.beq 3 3)=true∧(d==(24:Int))=false∧inR IntKind.i64 (d+(1:Int))=true∧Yt4 (Nf (Yt (Yt (Nf (U1 z4 z2 (decide (List.length z1*64≤140737488355328∧List.length z1≤1152921504606846976)=true∧inR IntKind.i64 (d+(1:Int)-(1:Int))=true∧0+List.length z1≤List.length z1∧0+List.length z1≤List.length z1∧0+List.length z1≤List.length z1∧0+List.length z1≤List.length z1∧0+List.length z1≤List.length z1∧Wk (AV.tup [AV.agg [i0 (8:Int),i0 a',i0 (0:Int),s0 ⟨⟨[]⟩⟩,AV.lst false 5 z1],z5]) (AV.tup [AV.agg [i0 (8:Int),i0 a',i0 (0:Int),s0 ByteArray.empty,AV.lst false 5 z1],z5])∧SameH (hpL [eR 1048577 [0,0] 2 [AV.agg [AV.lst false 3 ts',i0 (d+(1:Int)-(1:Int))]]]) (hpL [eR 1048577 [0,0] 2 [AV.agg [AV.lst false 3 ts',i0 d]]])))))))))))):=by kernel_rfl
def orOnlyN:Orc:=Orc.f (Orc.alt 0 (Orc.f (Orc.f (Orc.t (Orc.t (HF (Orc.f (Orc.f (Orc.alt 1 Orc.z)))))))))
theorem rOnlyN_vc (k a:Int)(x:ByteArray)(r:List AV)(d:Int)(q:Nd)(a':Int)(x':ByteArray)(r':List AV)(q2:Nd)(ts':List AV):rOnlyN orOnlyN k a x r d q a' x' r' q2 ts'=(let z1:=[encP q,encP q2]; let z2:=(hpL [eR 1048577 [0,0] 2 [AV.agg [AV.lst false 3 ts',i0 d]]]); let z3:=(AV.agg [i0 (6:Int),i0 a',s0 x']::r'); (k==(5:Int))=false∧∃ (_:Unit),(qVP211 k a x r d)∧Nf (Nf (Yt (Yt ((decide ((0:Int)≤(1:Int)∧(1:Int)≤(↑(List.length z3):Int))&&Nat.beq 3 3)=true∧Nf4 (Nf (Nf (∃ (_:Unit),(True∧Wks [AV.ptr 1048577 [0,0] 0 0] [AV.ptr 1048577 [0,0] 0 0]∧hpL [eR 1048577 [0,0] 2 [AV.agg [AV.lst false 3 (List.drop 1 z3),i0 d]]]=hpL [eR 1048577 [0,0] 2 [AV.agg [AV.lst false 3 r',i0 d]]])∧decide (List.length z1*64≤140737488355328∧List.length z1≤1152921504606846976)=true∧0+List.length z1≤List.length z1∧0+List.length z1≤List.length z1∧0+List.length z1≤List.length z1∧0+List.length z1≤List.length z1∧Wk (AV.tup [AV.agg [i0 (9:Int),i0 a',i0 (0:Int),s0 ⟨⟨[]⟩⟩,AV.lst false 5 z1],AV.lit Value.nilIface]) (AV.tup [AV.agg [i0 (9:Int),i0 a',i0 (0:Int),s0 ByteArray.empty,AV.lst false 5 z1],AV.lit Value.nilIface])∧SameH z2 z2)))))))):=by kernel_rfl
def orOnlyE:Orc:=Orc.f (Orc.alt 0 (Orc.f (Orc.f (Orc.t (Orc.t (HF (Orc.f (Orc.f (Orc.alt 1 Orc.z)))))))))
theorem rOnlyE_vc (k a:Int)(x:ByteArray)(r:List AV)(d:Int)(q:Nd)(a':Int)(x':ByteArray)(r':List AV)(q2:Nd)(ek ea:Int)(ts':List AV):rOnlyE orOnlyE k a x r d q a' x' r' q2 ek ea ts'=(let z1:=[encP q,encP q2]; let z2:=[eR 1048577 [0,0] 2 [AV.agg [AV.lst false 3 (AV.agg [i0 k,i0 a,s0 x]::r),i0 d]]]; let z3:=[AV.ptr 1048577 [0,0] 0 0]; let z4:=(hpL [eR 1048577 [0,0] 2 [AV.agg [AV.lst false 3 ts',i0 d]]]); let z5:=AV.iface 118 (AV.ref (AV.agg [i0 ea,AV.iface 26 (i0 ek)])); let z6:=(AV.agg [i0 (6:Int),i0 a',s0 x']::r'); (k==(5:Int))=false∧U1 z3 z2 (Nf (Nf (Yt (Yt ((decide ((0:Int)≤(1:Int)∧(1:Int)≤(↑(List.length z6):Int))&&Nat.beq 3 3)=true∧Nf4 (Nf (Nf (∃ (_:Unit),(True∧Wks z3 z3∧hpL [eR 1048577 [0,0] 2 [AV.agg [AV.lst false 3 (List.drop 1 z6),i0 d]]]=hpL [eR 1048577 [0,0] 2 [AV.agg [AV.lst false 3 r',i0 d]]])∧decide (List.length z1*64≤140737488355328∧List.length z1≤1152921504606846976)=true∧0+List.length z1≤List.length z1∧0+List.length z1≤List.length z1∧0+List.length z1≤List.length z1∧0+List.length z1≤List.length z1∧Wk (AV.tup [AV.agg [i0 (9:Int),i0 a',i0 (0:Int),s0 ⟨⟨[]⟩⟩,AV.lst false 5 z1],z5]) (AV.tup [AV.agg [i0 (9:Int),i0 a',i0 (0:Int),s0 ByteArray.empty,AV.lst false 5 z1],z5])∧SameH z4 z4))))))))):=by kernel_rfl
def otNotD:Orc:=Orc.f (Orc.t (Orc.t (Orc.f Orc.z)))
theorem tNotD_vc (a:Int)(x:ByteArray)(r:List AV):tNotD otNotD a x r=(let z1:=AV.iface 118 (AV.ref (AV.agg [i0 a,AV.iface 26 (i0 (16:Int))])); let z2:=(AV.agg [i0 (10:Int),i0 a,s0 x]::r); Nf (Yt ((decide ((0:Int)≤(1:Int)∧(1:Int)≤(↑(List.length z2):Int))&&true)=true∧Yt (Nf (Wk (AV.tup [AV.agg [i0 (5:Int),i0 a,i0 (0:Int),s0 ⟨⟨[]⟩⟩,AV.lit (Value.slice none 0 0)],z1]) (AV.tup [AV.agg [i0 (5:Int),i0 a,i0 (0:Int),s0 ByteArray.empty,AV.lst false 5 []],z1])∧SameH (hpL [eR 1048577 [0,0] 2 [AV.agg [AV.lst false 3 (List.drop 1 z2),i0 (24:Int)]]]) (hpL [eR 1048577 [0,0] 2 [AV.agg [AV.lst false 3 r,i0 (24:Int)]]])))))):=by kernel_rfl
theorem tNotN_vc (a:Int)(x:ByteArray)(r:List AV)(d:Int)(q:Nd)(ts':List AV):tNotN (Orc.f (Orc.t (Orc.f Orc.z))) a x r d q ts'=(let z1:=(AV.agg [i0 (10:Int),i0 a,s0 x]::r); Nf (Yt ((decide ((0:Int)≤(1:Int)∧(1:Int)≤(↑(List.length z1):Int))&&Nat.beq 3 3)=true∧(d==(24:Int))=false∧inR IntKind.i64 (d+(1:Int))=true∧∃ (_:Unit),(True∧Wks [AV.ptr 1048577 [0,0] 0 0] [AV.ptr 1048577 [0,0] 0 0]∧hpL [eR 1048577 [0,0] 2 [AV.agg [AV.lst false 3 (List.drop 1 z1),i0 (d+(1:Int))]]]=hpL [eR 1048577 [0,0] 2 [AV.agg [AV.lst false 3 r,i0 (d+(1:Int))]]])∧inR IntKind.i64 (d+(1:Int)-(1:Int))=true∧Wk (AV.tup [AV.agg [i0 (5:Int),i0 a,i0 (0:Int),s0 ⟨⟨[]⟩⟩,AV.lst true 5 [encP q]],AV.lit Value.nilIface]) (AV.tup [AV.agg [i0 (5:Int),i0 a,i0 (0:Int),s0 ByteArray.empty,AV.lst false 5 [encP q]],AV.lit Value.nilIface])∧SameH (hpL [eR 1048577 [0,0] 2 [AV.agg [AV.lst false 3 ts',i0 (d+(1:Int)-(1:Int))]]]) (hpL [eR 1048577 [0,0] 2 [AV.agg [AV.lst false 3 ts',i0 d]]])))):=by kernel_rfl
theorem tNotE_vc (a:Int)(x:ByteArray)(r:List AV)(d:Int)(q:Nd)(ek ea:Int)(ts':List AV):tNotE (Orc.f (Orc.t (Orc.f Orc.z))) a x r d q ek ea ts'=(let z1:=AV.iface 118 (AV.ref (AV.agg [i0 ea,AV.iface 26 (i0 ek)])); let z2:=(AV.agg [i0 (10:Int),i0 a,s0 x]::r); Nf (Yt ((decide ((0:Int)≤(1:Int)∧(1:Int)≤(↑(List.length z2):Int))&&Nat.beq 3 3)=true∧(d==(24:Int))=false∧inR IntKind.i64 (d+(1:Int))=true∧∃ (_:Unit),(True∧Wks [AV.ptr 1048577 [0,0] 0 0] [AV.ptr 1048577 [0,0] 0 0]∧hpL [eR 1048577 [0,0] 2 [AV.agg [AV.lst false 3 (List.drop 1 z2),i0 (d+(1:Int))]]]=hpL [eR 1048577 [0,0] 2 [AV.agg [AV.lst false 3 r,i0 (d+(1:Int))]]])∧inR IntKind.i64 (d+(1:Int)-(1:Int))=true∧Wk (AV.tup [AV.agg [i0 (5:Int),i0 a,i0 (0:Int),s0 ⟨⟨[]⟩⟩,AV.lst true 5 [encP q]],z1]) (AV.tup [AV.agg [i0 (5:Int),i0 a,i0 (0:Int),s0 ByteArray.empty,AV.lst false 5 [encP q]],z1])∧SameH (hpL [eR 1048577 [0,0] 2 [AV.agg [AV.lst false 3 ts',i0 (d+(1:Int)-(1:Int))]]]) (hpL [eR 1048577 [0,0] 2 [AV.agg [AV.lst false 3 ts',i0 d]]])))):=by kernel_rfl
theorem tRanN_vc (k a:Int)(x:ByteArray)(r:List AV)(d:Int)(q:Nd)(ts':List AV):tRanN (Orc.t Orc.z) k a x r d q ts'=(let z1:=(hpL [eR 1048577 [0,0] 2 [AV.agg [AV.lst false 3 ts',i0 d]]]); let z2:=(AV.tup [encP q,AV.lit Value.nilIface]); (k != (10:Int))=true∧∃ (_:Unit),(qVP211 k a x r d)∧Wk z2 z2∧SameH z1 z1):=by kernel_rfl
theorem tRanE_vc (k a:Int)(x:ByteArray)(r:List AV)(d:Int)(q:Nd)(ek ea:Int)(ts':List AV):tRanE (Orc.t Orc.z) k a x r d q ek ea ts'=(let z1:=[eR 1048577 [0,0] 2 [AV.agg [AV.lst false 3 (AV.agg [i0 k,i0 a,s0 x]::r),i0 d]]]; let z2:=(AV.tup [encP q,AV.iface 118 (AV.ref (AV.agg [i0 ea,AV.iface 26 (i0 ek)]))]); let z3:=(hpL [eR 1048577 [0,0] 2 [AV.agg [AV.lst false 3 ts',i0 d]]]); (k != (10:Int))=true∧U1 [AV.ptr 1048577 [0,0] 0 0] z1 (Wk z2 z2∧SameH z3 z3)):=by kernel_rfl
def ocXe:Orc:=HT (Orc.t (Orc.t (Orc.f Orc.z)))
theorem cXe_vc (k a:Int)(x:ByteArray)(r:List AV)(d:Int)(n:Nd):cXe ocXe k a x r d n=(let z1:List (Nat × Ent):=[(1048579,{ id:=[2,0],obj:=AObj.map true (qVP21) [i0 (2:Int),i0 (3:Int)] }),eR 1048577 [0,0] 5 [encP n],eR 1048580 [3,0] 2 [AV.agg [AV.lst false 3 (AV.agg [i0 k,i0 a,s0 x]::r),i0 d]],(qVP20)]; Yt4 (Yt ((qVP26)=true∧Yt ((lookI k (qVP21) [i0 (2:Int),i0 (3:Int)] != (0:Int))=false∧Ex.exit 0=Ex.exit 0∧Wk (qVP29) (qVP29)∧SameH (hpL z1) (hpL z1))))):=by kernel_rfl
def ocXt:Orc:=HT (Orc.t (Orc.t (Orc.f Orc.z)))
theorem cXt_vc (k a:Int)(x:ByteArray)(r:List AV)(d:Int)(n:Nd):cXt ocXt k a x r d n=(let z1:List (Nat × Ent):=[(1048579,{ id:=[2,0],obj:=AObj.map true [Value.int IntKind.i64 (9:Int)] [i0 (4:Int)] }),eR 1048577 [0,0] 5 [encP n],eR 1048580 [3,0] 2 [AV.agg [AV.lst false 3 (AV.agg [i0 k,i0 a,s0 x]::r),i0 d]],(qVP20)]; Yt4 (Yt ((qVP26)=true∧Yt ((lookI k [Value.int IntKind.i64 (9:Int)] [i0 (4:Int)] != (0:Int))=false∧Ex.exit 0=Ex.exit 0∧Wk (qVP29) (qVP29)∧SameH (hpL z1) (hpL z1))))):=by kernel_rfl
def ocEe:Orc:=HF (Orc.f (Orc.f (Orc.f Orc.z)))
theorem cEe_vc (ts:List AV)(d:Int)(n:Nd)(ek ea:Int):cEe ocEe ts d n ek ea=(let z1:List (Nat × Ent):=[(1048579,{ id:=[2,0],obj:=AObj.map true (qVP21) [i0 (2:Int),i0 (3:Int)] }),eR 1048577 [0,0] 5 [encP n],eR 1048580 [3,0] 2 [AV.agg [AV.lst false 3 ts,i0 d]],(qVP20)]; let z2:=(AV.tup [AV.ptr 1048578 [1,0] 0 0,AV.ptr 1048577 [0,0] 0 0,AV.iface 118 (AV.ref (AV.agg [i0 ea,AV.iface 26 (i0 ek)]))]); Nf4 (Nf (Nf (Nf (Ex.exit 0=Ex.exit 0∧Wk z2 z2∧SameH (hpL z1) (hpL z1)))))):=by kernel_rfl
def ocEt:Orc:=HF (Orc.f (Orc.f (Orc.f Orc.z)))
theorem cEt_vc (ts:List AV)(d:Int)(n:Nd)(ek ea:Int):cEt ocEt ts d n ek ea=(let z1:List (Nat × Ent):=[(1048579,{ id:=[2,0],obj:=AObj.map true [Value.int IntKind.i64 (9:Int)] [i0 (4:Int)] }),eR 1048577 [0,0] 5 [encP n],eR 1048580 [3,0] 2 [AV.agg [AV.lst false 3 ts,i0 d]],(qVP20)]; let z2:=(AV.tup [AV.ptr 1048578 [1,0] 0 0,AV.ptr 1048577 [0,0] 0 0,AV.iface 118 (AV.ref (AV.agg [i0 ea,AV.iface 26 (i0 ek)]))]); Nf4 (Nf (Nf (Nf (Ex.exit 0=Ex.exit 0∧Wk z2 z2∧SameH (hpL z1) (hpL z1)))))):=by kernel_rfl
def ocR7N:Orc:=HT (Orc.t (Orc.t (Orc.t (Orc.t Orc.z))))
theorem cR7N_vc (a:Int)(x:ByteArray)(r:List AV)(d:Int)(n q:Nd)(us zs:List AV)(m:Nd):cR7N ocR7N a x r d n q us zs m=(let z1:List (Nat × Ent):=[(1048579,{ id:=[2,0],obj:=AObj.map true (qVP21) [i0 (2:Int),i0 (3:Int)] }),eR 1048577 [0,0] 5 [encP m],(qVP210 zs d),(qVP20)]; let z2:=(AV.agg [i0 (7:Int),i0 a,s0 x]::r); Yt4 (Yt ((qVP26)=true∧Yt (Yt (Yt ((decide ((0:Int)≤(1:Int)∧(1:Int)≤(↑(List.length z2):Int))&&Nat.beq 3 3)=true∧∃ (_:Unit),(True∧Wks [AV.ptr 1048577 [0,0] 0 0] [AV.ptr 1048577 [0,0] 0 0]∧hpL [eR 1048577 [0,0] 2 [AV.agg [AV.lst false 3 (List.drop 1 z2),i0 d]]]=hpL [eR 1048577 [0,0] 2 [AV.agg [AV.lst false 3 r,i0 d]]])∧(qVP26)=true∧∃ (_:Unit),(True∧Wks (qVP22) (qVP22)∧HW (hpL [(1048579,{ id:=[2,0],obj:=AObj.map true (qVP21) [i0 (2:Int),i0 (3:Int)] }),eR 1048577 [0,0] 5 [AV.agg [i0 (2:Int),i0 a,i0 (0:Int),s0 ⟨⟨[]⟩⟩,AV.lst true 5 [encP n,encP q]]],(qVP25 us d),(qVP20)]) (hpL [(1048579,{ id:=[2,0],obj:=AObj.map true (qVP21) [i0 (2:Int),i0 (3:Int)] }),eR 1048577 [0,0] 5 [AV.agg [i0 (2:Int),i0 a,i0 (0:Int),s0 ByteArray.empty,AV.lst false 5 [encP n,encP q]]],(qVP25 us d),(qVP20)]) [1048577,1048580])∧Ex.exit 0=Ex.exit 0∧Wk (qVP29) (qVP29)∧SameH (hpL z1) (hpL z1))))))):=by kernel_rfl
def ocR7F:Orc:=HT (Orc.t (Orc.t (Orc.t (Orc.t Orc.z))))
theorem cR7F_vc (a:Int)(x:ByteArray)(r:List AV)(d:Int)(n q:Nd)(us zs:List AV)(m:Nd)(fk fa:Int):cR7F ocR7F a x r d n q us zs m fk fa=(let z1:List (Nat × Ent):=[(1048579,{ id:=[2,0],obj:=AObj.map true (qVP21) [i0 (2:Int),i0 (3:Int)] }),eR 1048577 [0,0] 5 [encP m],(qVP210 zs d),(qVP20)]; let z2:=(AV.agg [i0 (7:Int),i0 a,s0 x]::r); Yt4 (Yt ((qVP26)=true∧Yt (Yt (Yt ((decide ((0:Int)≤(1:Int)∧(1:Int)≤(↑(List.length z2):Int))&&Nat.beq 3 3)=true∧∃ (_:Unit),(True∧Wks [AV.ptr 1048577 [0,0] 0 0] [AV.ptr 1048577 [0,0] 0 0]∧hpL [eR 1048577 [0,0] 2 [AV.agg [AV.lst false 3 (List.drop 1 z2),i0 d]]]=hpL [eR 1048577 [0,0] 2 [AV.agg [AV.lst false 3 r,i0 d]]])∧(qVP26)=true∧∃ (_:Unit),(True∧Wks (qVP22) (qVP22)∧HW (hpL [(1048579,{ id:=[2,0],obj:=AObj.map true (qVP21) [i0 (2:Int),i0 (3:Int)] }),eR 1048577 [0,0] 5 [AV.agg [i0 (2:Int),i0 a,i0 (0:Int),s0 ⟨⟨[]⟩⟩,AV.lst true 5 [encP n,encP q]]],(qVP25 us d),(qVP20)]) (hpL [(1048579,{ id:=[2,0],obj:=AObj.map true (qVP21) [i0 (2:Int),i0 (3:Int)] }),eR 1048577 [0,0] 5 [AV.agg [i0 (2:Int),i0 a,i0 (0:Int),s0 ByteArray.empty,AV.lst false 5 [encP n,encP q]]],(qVP25 us d),(qVP20)]) [1048577,1048580])∧Ex.exit 0=Ex.exit 0∧Wk (qVP23 fa fk) (qVP23 fa fk)∧SameH (hpL z1) (hpL z1))))))):=by kernel_rfl
def ocR7E:Orc:=HT (Orc.t (Orc.t (Orc.t (Orc.t Orc.z))))
theorem cR7E_vc (a:Int)(x:ByteArray)(r:List AV)(d:Int)(n q:Nd)(us zs:List AV)(m:Nd)(ek ea:Int)(fk fa:Int):cR7E ocR7E a x r d n q us zs m ek ea fk fa=(let z1:List (Nat × Ent):=[(1048579,{ id:=[2,0],obj:=AObj.map true (qVP21) [i0 (2:Int),i0 (3:Int)] }),eR 1048577 [0,0] 5 [encP m],(qVP210 zs d),(qVP20)]; let z2:=(AV.agg [i0 (7:Int),i0 a,s0 x]::r); Yt4 (Yt ((qVP26)=true∧Yt (Yt (Yt ((decide ((0:Int)≤(1:Int)∧(1:Int)≤(↑(List.length z2):Int))&&Nat.beq 3 3)=true∧∃ (_:Unit),(True∧Wks [AV.ptr 1048577 [0,0] 0 0] [AV.ptr 1048577 [0,0] 0 0]∧hpL [eR 1048577 [0,0] 2 [AV.agg [AV.lst false 3 (List.drop 1 z2),i0 d]]]=hpL [eR 1048577 [0,0] 2 [AV.agg [AV.lst false 3 r,i0 d]]])∧(qVP26)=true∧∃ (_:Unit),(True∧Wks (qVP27 ea ek) (qVP27 ea ek)∧HW (hpL [(1048579,{ id:=[2,0],obj:=AObj.map true (qVP21) [i0 (2:Int),i0 (3:Int)] }),eR 1048577 [0,0] 5 [AV.agg [i0 (2:Int),i0 a,i0 (0:Int),s0 ⟨⟨[]⟩⟩,AV.lst true 5 [encP n,encP q]]],(qVP25 us d),(qVP20)]) (hpL [(1048579,{ id:=[2,0],obj:=AObj.map true (qVP21) [i0 (2:Int),i0 (3:Int)] }),eR 1048577 [0,0] 5 [AV.agg [i0 (2:Int),i0 a,i0 (0:Int),s0 ByteArray.empty,AV.lst false 5 [encP n,encP q]]],(qVP25 us d),(qVP20)]) [1048577,1048580])∧Ex.exit 0=Ex.exit 0∧Wk (qVP23 fa fk) (qVP23 fa fk)∧SameH (hpL z1) (hpL z1))))))):=by kernel_rfl
def ocR8N:Orc:=HT (Orc.t (Orc.t (Orc.t (Orc.t Orc.z))))
theorem cR8N_vc (a:Int)(x:ByteArray)(r:List AV)(d:Int)(n q:Nd)(us zs:List AV)(m:Nd):cR8N ocR8N a x r d n q us zs m=(let z1:List (Nat × Ent):=[(1048579,{ id:=[2,0],obj:=AObj.map true (qVP21) [i0 (2:Int),i0 (3:Int)] }),eR 1048577 [0,0] 5 [encP m],(qVP210 zs d),(qVP20)]; let z2:=(AV.agg [i0 (8:Int),i0 a,s0 x]::r); Yt4 (Yt ((qVP26)=true∧Yt (Yt (Yt ((decide ((0:Int)≤(1:Int)∧(1:Int)≤(↑(List.length z2):Int))&&Nat.beq 3 3)=true∧∃ (_:Unit),(True∧Wks [AV.ptr 1048577 [0,0] 0 0] [AV.ptr 1048577 [0,0] 0 0]∧hpL [eR 1048577 [0,0] 2 [AV.agg [AV.lst false 3 (List.drop 1 z2),i0 d]]]=hpL [eR 1048577 [0,0] 2 [AV.agg [AV.lst false 3 r,i0 d]]])∧(qVP26)=true∧∃ (_:Unit),(True∧Wks (qVP22) (qVP22)∧HW (hpL [(1048579,{ id:=[2,0],obj:=AObj.map true (qVP21) [i0 (2:Int),i0 (3:Int)] }),eR 1048577 [0,0] 5 [AV.agg [i0 (3:Int),i0 a,i0 (0:Int),s0 ⟨⟨[]⟩⟩,AV.lst true 5 [encP n,encP q]]],(qVP25 us d),(qVP20)]) (hpL [(1048579,{ id:=[2,0],obj:=AObj.map true (qVP21) [i0 (2:Int),i0 (3:Int)] }),eR 1048577 [0,0] 5 [AV.agg [i0 (3:Int),i0 a,i0 (0:Int),s0 ByteArray.empty,AV.lst false 5 [encP n,encP q]]],(qVP25 us d),(qVP20)]) [1048577,1048580])∧Ex.exit 0=Ex.exit 0∧Wk (qVP29) (qVP29)∧SameH (hpL z1) (hpL z1))))))):=by kernel_rfl
def ocR8F:Orc:=HT (Orc.t (Orc.t (Orc.t (Orc.t Orc.z))))
theorem cR8F_vc (a:Int)(x:ByteArray)(r:List AV)(d:Int)(n q:Nd)(us zs:List AV)(m:Nd)(fk fa:Int):cR8F ocR8F a x r d n q us zs m fk fa=(let z1:List (Nat × Ent):=[(1048579,{ id:=[2,0],obj:=AObj.map true (qVP21) [i0 (2:Int),i0 (3:Int)] }),eR 1048577 [0,0] 5 [encP m],(qVP210 zs d),(qVP20)]; let z2:=(AV.agg [i0 (8:Int),i0 a,s0 x]::r); Yt4 (Yt ((qVP26)=true∧Yt (Yt (Yt ((decide ((0:Int)≤(1:Int)∧(1:Int)≤(↑(List.length z2):Int))&&Nat.beq 3 3)=true∧∃ (_:Unit),(True∧Wks [AV.ptr 1048577 [0,0] 0 0] [AV.ptr 1048577 [0,0] 0 0]∧hpL [eR 1048577 [0,0] 2 [AV.agg [AV.lst false 3 (List.drop 1 z2),i0 d]]]=hpL [eR 1048577 [0,0] 2 [AV.agg [AV.lst false 3 r,i0 d]]])∧(qVP26)=true∧∃ (_:Unit),(True∧Wks (qVP22) (qVP22)∧HW (hpL [(1048579,{ id:=[2,0],obj:=AObj.map true (qVP21) [i0 (2:Int),i0 (3:Int)] }),eR 1048577 [0,0] 5 [AV.agg [i0 (3:Int),i0 a,i0 (0:Int),s0 ⟨⟨[]⟩⟩,AV.lst true 5 [encP n,encP q]]],(qVP25 us d),(qVP20)]) (hpL [(1048579,{ id:=[2,0],obj:=AObj.map true (qVP21) [i0 (2:Int),i0 (3:Int)] }),eR 1048577 [0,0] 5 [AV.agg [i0 (3:Int),i0 a,i0 (0:Int),s0 ByteArray.empty,AV.lst false 5 [encP n,encP q]]],(qVP25 us d),(qVP20)]) [1048577,1048580])∧Ex.exit 0=Ex.exit 0∧Wk (qVP23 fa fk) (qVP23 fa fk)∧SameH (hpL z1) (hpL z1))))))):=by kernel_rfl
def ocR8E:Orc:=HT (Orc.t (Orc.t (Orc.t (Orc.t Orc.z))))
theorem cR8E_vc (a:Int)(x:ByteArray)(r:List AV)(d:Int)(n q:Nd)(us zs:List AV)(m:Nd)(ek ea:Int)(fk fa:Int):cR8E ocR8E a x r d n q us zs m ek ea fk fa=(let z1:List (Nat × Ent):=[(1048579,{ id:=[2,0],obj:=AObj.map true (qVP21) [i0 (2:Int),i0 (3:Int)] }),eR 1048577 [0,0] 5 [encP m],(qVP210 zs d),(qVP20)]; let z2:=(AV.agg [i0 (8:Int),i0 a,s0 x]::r); Yt4 (Yt ((qVP26)=true∧Yt (Yt (Yt ((decide ((0:Int)≤(1:Int)∧(1:Int)≤(↑(List.length z2):Int))&&Nat.beq 3 3)=true∧∃ (_:Unit),(True∧Wks [AV.ptr 1048577 [0,0] 0 0] [AV.ptr 1048577 [0,0] 0 0]∧hpL [eR 1048577 [0,0] 2 [AV.agg [AV.lst false 3 (List.drop 1 z2),i0 d]]]=hpL [eR 1048577 [0,0] 2 [AV.agg [AV.lst false 3 r,i0 d]]])∧(qVP26)=true∧∃ (_:Unit),(True∧Wks (qVP27 ea ek) (qVP27 ea ek)∧HW (hpL [(1048579,{ id:=[2,0],obj:=AObj.map true (qVP21) [i0 (2:Int),i0 (3:Int)] }),eR 1048577 [0,0] 5 [AV.agg [i0 (3:Int),i0 a,i0 (0:Int),s0 ⟨⟨[]⟩⟩,AV.lst true 5 [encP n,encP q]]],(qVP25 us d),(qVP20)]) (hpL [(1048579,{ id:=[2,0],obj:=AObj.map true (qVP21) [i0 (2:Int),i0 (3:Int)] }),eR 1048577 [0,0] 5 [AV.agg [i0 (3:Int),i0 a,i0 (0:Int),s0 ByteArray.empty,AV.lst false 5 [encP n,encP q]]],(qVP25 us d),(qVP20)]) [1048577,1048580])∧Ex.exit 0=Ex.exit 0∧Wk (qVP23 fa fk) (qVP23 fa fk)∧SameH (hpL z1) (hpL z1))))))):=by kernel_rfl
def ocR9N:Orc:=HT (Orc.t (Orc.t (Orc.t (Orc.t Orc.z))))
theorem cR9N_vc (a:Int)(x:ByteArray)(r:List AV)(d:Int)(n q:Nd)(us zs:List AV)(m:Nd):cR9N ocR9N a x r d n q us zs m=(let z1:List (Nat × Ent):=[(1048579,{ id:=[2,0],obj:=AObj.map true [Value.int IntKind.i64 (9:Int)] [i0 (4:Int)] }),eR 1048577 [0,0] 5 [encP m],(qVP210 zs d),(qVP20)]; let z2:=(AV.agg [i0 (9:Int),i0 a,s0 x]::r); Yt4 (Yt ((qVP26)=true∧Yt (Yt (Yt ((decide ((0:Int)≤(1:Int)∧(1:Int)≤(↑(List.length z2):Int))&&Nat.beq 3 3)=true∧∃ (_:Unit),(True∧Wks [AV.ptr 1048577 [0,0] 0 0] [AV.ptr 1048577 [0,0] 0 0]∧hpL [eR 1048577 [0,0] 2 [AV.agg [AV.lst false 3 (List.drop 1 z2),i0 d]]]=hpL [eR 1048577 [0,0] 2 [AV.agg [AV.lst false 3 r,i0 d]]])∧(qVP26)=true∧∃ (_:Unit),(True∧Wks (qVP24) (qVP24)∧HW (hpL [(1048579,{ id:=[2,0],obj:=AObj.map true [Value.int IntKind.i64 (9:Int)] [i0 (4:Int)] }),eR 1048577 [0,0] 5 [AV.agg [i0 (4:Int),i0 a,i0 (0:Int),s0 ⟨⟨[]⟩⟩,AV.lst true 5 [encP n,encP q]]],(qVP25 us d),(qVP20)]) (hpL [(1048579,{ id:=[2,0],obj:=AObj.map true [Value.int IntKind.i64 (9:Int)] [i0 (4:Int)] }),eR 1048577 [0,0] 5 [AV.agg [i0 (4:Int),i0 a,i0 (0:Int),s0 ByteArray.empty,AV.lst false 5 [encP n,encP q]]],(qVP25 us d),(qVP20)]) [1048577,1048580])∧Ex.exit 0=Ex.exit 0∧Wk (qVP29) (qVP29)∧SameH (hpL z1) (hpL z1))))))):=by kernel_rfl
def ocR9F:Orc:=HT (Orc.t (Orc.t (Orc.t (Orc.t Orc.z))))
theorem cR9F_vc (a:Int)(x:ByteArray)(r:List AV)(d:Int)(n q:Nd)(us zs:List AV)(m:Nd)(fk fa:Int):cR9F ocR9F a x r d n q us zs m fk fa=(let z1:List (Nat × Ent):=[(1048579,{ id:=[2,0],obj:=AObj.map true [Value.int IntKind.i64 (9:Int)] [i0 (4:Int)] }),eR 1048577 [0,0] 5 [encP m],(qVP210 zs d),(qVP20)]; let z2:=(AV.agg [i0 (9:Int),i0 a,s0 x]::r); Yt4 (Yt ((qVP26)=true∧Yt (Yt (Yt ((decide ((0:Int)≤(1:Int)∧(1:Int)≤(↑(List.length z2):Int))&&Nat.beq 3 3)=true∧∃ (_:Unit),(True∧Wks [AV.ptr 1048577 [0,0] 0 0] [AV.ptr 1048577 [0,0] 0 0]∧hpL [eR 1048577 [0,0] 2 [AV.agg [AV.lst false 3 (List.drop 1 z2),i0 d]]]=hpL [eR 1048577 [0,0] 2 [AV.agg [AV.lst false 3 r,i0 d]]])∧(qVP26)=true∧∃ (_:Unit),(True∧Wks (qVP24) (qVP24)∧HW (hpL [(1048579,{ id:=[2,0],obj:=AObj.map true [Value.int IntKind.i64 (9:Int)] [i0 (4:Int)] }),eR 1048577 [0,0] 5 [AV.agg [i0 (4:Int),i0 a,i0 (0:Int),s0 ⟨⟨[]⟩⟩,AV.lst true 5 [encP n,encP q]]],(qVP25 us d),(qVP20)]) (hpL [(1048579,{ id:=[2,0],obj:=AObj.map true [Value.int IntKind.i64 (9:Int)] [i0 (4:Int)] }),eR 1048577 [0,0] 5 [AV.agg [i0 (4:Int),i0 a,i0 (0:Int),s0 ByteArray.empty,AV.lst false 5 [encP n,encP q]]],(qVP25 us d),(qVP20)]) [1048577,1048580])∧Ex.exit 0=Ex.exit 0∧Wk (qVP23 fa fk) (qVP23 fa fk)∧SameH (hpL z1) (hpL z1))))))):=by kernel_rfl
def ocR9E:Orc:=HT (Orc.t (Orc.t (Orc.t (Orc.t Orc.z))))
theorem cR9E_vc (a:Int)(x:ByteArray)(r:List AV)(d:Int)(n q:Nd)(us zs:List AV)(m:Nd)(ek ea:Int)(fk fa:Int):cR9E ocR9E a x r d n q us zs m ek ea fk fa=(let z1:List (Nat × Ent):=[(1048579,{ id:=[2,0],obj:=AObj.map true [Value.int IntKind.i64 (9:Int)] [i0 (4:Int)] }),eR 1048577 [0,0] 5 [encP m],(qVP210 zs d),(qVP20)]; let z2:=(AV.agg [i0 (9:Int),i0 a,s0 x]::r); Yt4 (Yt ((qVP26)=true∧Yt (Yt (Yt ((decide ((0:Int)≤(1:Int)∧(1:Int)≤(↑(List.length z2):Int))&&Nat.beq 3 3)=true∧∃ (_:Unit),(True∧Wks [AV.ptr 1048577 [0,0] 0 0] [AV.ptr 1048577 [0,0] 0 0]∧hpL [eR 1048577 [0,0] 2 [AV.agg [AV.lst false 3 (List.drop 1 z2),i0 d]]]=hpL [eR 1048577 [0,0] 2 [AV.agg [AV.lst false 3 r,i0 d]]])∧(qVP26)=true∧∃ (_:Unit),(True∧Wks (qVP212 ea ek) (qVP212 ea ek)∧HW (hpL [(1048579,{ id:=[2,0],obj:=AObj.map true [Value.int IntKind.i64 (9:Int)] [i0 (4:Int)] }),eR 1048577 [0,0] 5 [AV.agg [i0 (4:Int),i0 a,i0 (0:Int),s0 ⟨⟨[]⟩⟩,AV.lst true 5 [encP n,encP q]]],(qVP25 us d),(qVP20)]) (hpL [(1048579,{ id:=[2,0],obj:=AObj.map true [Value.int IntKind.i64 (9:Int)] [i0 (4:Int)] }),eR 1048577 [0,0] 5 [AV.agg [i0 (4:Int),i0 a,i0 (0:Int),s0 ByteArray.empty,AV.lst false 5 [encP n,encP q]]],(qVP25 us d),(qVP20)]) [1048577,1048580])∧Ex.exit 0=Ex.exit 0∧Wk (qVP23 fa fk) (qVP23 fa fk)∧SameH (hpL z1) (hpL z1))))))):=by kernel_rfl
theorem gExN_vc (ts us:List AV)(d:Int)(q:Nd)(zs:List AV)(m:Nd):gExN (Orc.z) ts us d q zs m=(let z1:=(AV.tup [encP m,AV.lit Value.nilIface]); ∃ (_:Unit),(qVP28 ts d)∧∃ (_:Unit),(True∧Wks (qVP22) (qVP22)∧HW (hpL [(1048579,{ id:=[2,0],obj:=AObj.map true (qVP21) [i0 (2:Int),i0 (3:Int)] }),eR 1048577 [0,0] 5 [encP q],(qVP25 us d),eR 1048578 [1,0] 5 [AV.agg [i0 (0:Int),i0 (0:Int),i0 (0:Int),s0 ⟨⟨[]⟩⟩,AV.lit (Value.slice none 0 0)]]]) (hpL [(1048579,{ id:=[2,0],obj:=AObj.map true (qVP21) [i0 (2:Int),i0 (3:Int)] }),eR 1048577 [0,0] 5 [encP q],(qVP25 us d),(qVP20)]) [1048577,1048580])∧Wk z1 z1∧SameH (qVP213 zs d) (qVP213 zs d)):=by kernel_rfl
theorem gExF_vc (ts us:List AV)(d:Int)(q:Nd)(zs:List AV)(m:Nd)(fk fa:Int):gExF (Orc.z) ts us d q zs m fk fa=(let z1:=(AV.tup [encP m,AV.iface 118 (AV.ref (AV.agg [i0 fa,AV.iface 26 (i0 fk)]))]); ∃ (_:Unit),(qVP28 ts d)∧∃ (_:Unit),(True∧Wks (qVP22) (qVP22)∧HW (hpL [(1048579,{ id:=[2,0],obj:=AObj.map true (qVP21) [i0 (2:Int),i0 (3:Int)] }),eR 1048577 [0,0] 5 [encP q],(qVP25 us d),eR 1048578 [1,0] 5 [AV.agg [i0 (0:Int),i0 (0:Int),i0 (0:Int),s0 ⟨⟨[]⟩⟩,AV.lit (Value.slice none 0 0)]]]) (hpL [(1048579,{ id:=[2,0],obj:=AObj.map true (qVP21) [i0 (2:Int),i0 (3:Int)] }),eR 1048577 [0,0] 5 [encP q],(qVP25 us d),(qVP20)]) [1048577,1048580])∧Wk z1 z1∧SameH (qVP213 zs d) (qVP213 zs d)):=by kernel_rfl
theorem gExE_vc (ts us:List AV)(d:Int)(q:Nd)(zs:List AV)(m:Nd)(ek ea:Int)(fk fa:Int):gExE (Orc.z) ts us d q zs m ek ea fk fa=(let z1:=(AV.tup [encP m,AV.iface 118 (AV.ref (AV.agg [i0 fa,AV.iface 26 (i0 fk)]))]); ∃ (_:Unit),(qVP28 ts d)∧∃ (_:Unit),(True∧Wks (qVP27 ea ek) (qVP27 ea ek)∧HW (hpL [(1048579,{ id:=[2,0],obj:=AObj.map true (qVP21) [i0 (2:Int),i0 (3:Int)] }),eR 1048577 [0,0] 5 [encP q],(qVP25 us d),eR 1048578 [1,0] 5 [AV.agg [i0 (0:Int),i0 (0:Int),i0 (0:Int),s0 ⟨⟨[]⟩⟩,AV.lit (Value.slice none 0 0)]]]) (hpL [(1048579,{ id:=[2,0],obj:=AObj.map true (qVP21) [i0 (2:Int),i0 (3:Int)] }),eR 1048577 [0,0] 5 [encP q],(qVP25 us d),(qVP20)]) [1048577,1048580])∧Wk z1 z1∧SameH (qVP213 zs d) (qVP213 zs d)):=by kernel_rfl
theorem gTeN_vc (ts us:List AV)(d:Int)(q:Nd)(zs:List AV)(m:Nd):gTeN (Orc.z) ts us d q zs m=(let z1:=(AV.tup [encP m,AV.lit Value.nilIface]); ∃ (_:Unit),(qVP28 ts d)∧∃ (_:Unit),(True∧Wks (qVP24) (qVP24)∧HW (hpL [(1048579,{ id:=[2,0],obj:=AObj.map true [Value.int IntKind.i64 (9:Int)] [i0 (4:Int)] }),eR 1048577 [0,0] 5 [encP q],(qVP25 us d),eR 1048578 [1,0] 5 [AV.agg [i0 (0:Int),i0 (0:Int),i0 (0:Int),s0 ⟨⟨[]⟩⟩,AV.lit (Value.slice none 0 0)]]]) (hpL [(1048579,{ id:=[2,0],obj:=AObj.map true [Value.int IntKind.i64 (9:Int)] [i0 (4:Int)] }),eR 1048577 [0,0] 5 [encP q],(qVP25 us d),(qVP20)]) [1048577,1048580])∧Wk z1 z1∧SameH (qVP213 zs d) (qVP213 zs d)):=by kernel_rfl
theorem gTeF_vc (ts us:List AV)(d:Int)(q:Nd)(zs:List AV)(m:Nd)(fk fa:Int):gTeF (Orc.z) ts us d q zs m fk fa=(let z1:=(AV.tup [encP m,AV.iface 118 (AV.ref (AV.agg [i0 fa,AV.iface 26 (i0 fk)]))]); ∃ (_:Unit),(qVP28 ts d)∧∃ (_:Unit),(True∧Wks (qVP24) (qVP24)∧HW (hpL [(1048579,{ id:=[2,0],obj:=AObj.map true [Value.int IntKind.i64 (9:Int)] [i0 (4:Int)] }),eR 1048577 [0,0] 5 [encP q],(qVP25 us d),eR 1048578 [1,0] 5 [AV.agg [i0 (0:Int),i0 (0:Int),i0 (0:Int),s0 ⟨⟨[]⟩⟩,AV.lit (Value.slice none 0 0)]]]) (hpL [(1048579,{ id:=[2,0],obj:=AObj.map true [Value.int IntKind.i64 (9:Int)] [i0 (4:Int)] }),eR 1048577 [0,0] 5 [encP q],(qVP25 us d),(qVP20)]) [1048577,1048580])∧Wk z1 z1∧SameH (qVP213 zs d) (qVP213 zs d)):=by kernel_rfl
theorem gTeE_vc (ts us:List AV)(d:Int)(q:Nd)(zs:List AV)(m:Nd)(ek ea:Int)(fk fa:Int):gTeE (Orc.z) ts us d q zs m ek ea fk fa=(let z1:=(AV.tup [encP m,AV.iface 118 (AV.ref (AV.agg [i0 fa,AV.iface 26 (i0 fk)]))]); ∃ (_:Unit),(qVP28 ts d)∧∃ (_:Unit),(True∧Wks (qVP212 ea ek) (qVP212 ea ek)∧HW (hpL [(1048579,{ id:=[2,0],obj:=AObj.map true [Value.int IntKind.i64 (9:Int)] [i0 (4:Int)] }),eR 1048577 [0,0] 5 [encP q],(qVP25 us d),eR 1048578 [1,0] 5 [AV.agg [i0 (0:Int),i0 (0:Int),i0 (0:Int),s0 ⟨⟨[]⟩⟩,AV.lit (Value.slice none 0 0)]]]) (hpL [(1048579,{ id:=[2,0],obj:=AObj.map true [Value.int IntKind.i64 (9:Int)] [i0 (4:Int)] }),eR 1048577 [0,0] 5 [encP q],(qVP25 us d),(qVP20)]) [1048577,1048580])∧Wk z1 z1∧SameH (qVP213 zs d) (qVP213 zs d)):=by kernel_rfl
end Go.Proofs.YtpofhijgccocpaaGreatDoor
end
