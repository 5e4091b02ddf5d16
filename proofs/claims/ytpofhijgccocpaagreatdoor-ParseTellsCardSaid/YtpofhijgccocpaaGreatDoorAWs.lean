/- Operations over values that are not known: comparisons of arrays. -/
import Derived.Test.YtpofhijgccocpaaGreatDoorAWa
namespace Go.AS
noncomputable section
def zahI (k:IntKind):Value->Bool
 | .int k' _=>decide (k'=k)
 | _=>false
def zaBA:List AV->Option (List Value)
 | []=>some []
 | .lit v::r=>match zaBA r with
  | some vs=>some (v::vs)
  | none=>none
 | _::_=>none
def zaul:AV->Option (List Value)
 | .lit (.agg cs)=>some cs.toList
 | .agg xs=>zaBA xs
 | _=>none
def zab (xs:List Value):List ByteArray:=xs.map fun | .string s=>s|_=>ByteArray.empty
def zaBC (xs:List Value):List Int:=xs.map fun | .int _ n=>n|_=>0
def zakj:Value->Bool
 | .string _=>true
 | _=>false
def zasP:Value->Bool
 | .string _=>true
 | .int _ _=>true
 | _=>false
def zaaa (s:ByteArray)(n:Nat):Nat:=(s.data.getD n 0).toNat
def zanN (B:Tb)(t:TypeId)(u:AV)(n:Int):Option (AV × Bool) :=
 match ti B t with
 | some T=>match T.desc with
  | .array len e=>match ti B e,zaul u with
   | some U,some vs=>match Nat.beq U.size 1,U.agg with
    | true,false=>match U.desc with
     | .int k=>some (.lit (.int k ((zaBC vs).getD n.toNat 0)),decide (0<=n/\n<len)&&(decide (vs.length=len)&&vs.all (zahI k)))
     | .string=>some (.lit (.string ((zab vs).getD n.toNat ByteArray.empty)),decide (0<=n/\n<len)&&(decide (vs.length=len)&&vs.all zakj))
     | _=>none
    | _,_=>none
   | _,_=>none
  | .string=>match u with
   | .lit (.string s)=>some (.lit (.int .u8 (zaaa s n.toNat)),decide (0<=n/\n<s.size))
   | _=>none
  | _=>none
 | none=>none
theorem zae3:∀ (xs:List AV) (vs:List Value),zaBA xs=some vs->(∀ v∈vs,zasP v=true)->∀ (j:Nat),AV.getAts xs j 1 false=(vs[j]?).map .lit
 | [],vs,h,_,j=>by cases h;simp [AV.getAts]
 | x::xs,vs,h,h1,j=>by
  unfold zaBA at h
  split at h
  · cases ‹_::_=[]›
  · rename_i v r he;cases he
    split at h
    · rename_i us hus;cases h
      have hv:=h1 v (List.mem_cons_self ..)
      have hsz:(AV.lit v).fsz=1:=by cases v<;>first|(cases hv;done)|rfl
      rw [AV.getAts,hsz]
      cases j with
      | zero =>
        simp only [Nat.lt_one_iff,if_true,List.getElem?_cons_zero,Option.map_some]
        rw [AV.getAt]
        cases v<;>first|(cases hv;done)|simp [zaox]
      | succ j =>
        rw [if_neg (by omega),Nat.add_sub_cancel,zae3 xs us hus (fun u hu=>h1 u (List.mem_cons_of_mem _ hu)) j]
        simp
    · cases h
  · cases h
def idxC (u:AV)(j:Nat):Option AV:=match u with
 | .lit (.agg cs)=>zaox (.agg cs) (j*1) 1 false
 | .agg xs=>AV.getAts xs (j*1) 1 false
 | _=>none
theorem zam1 {u:AV}{vs:List Value}(h:zaul u=some vs)(h1:∀ v∈vs,zasP v=true)(j:Nat):idxC u j=(vs[j]?).map AV.lit:=by
 unfold zaul at h
 unfold idxC
 split at h
 · cases h
   simp [zaox]
 · simp only [Nat.mul_one]
   exact zae3 _ _ h h1 j
 · cases h
variable {B:Tb} {t:TypeId} {T:TI} {y x:AV} {ok:Bool} {look:Nat->Option Ent} {C:Cx} {fr:Fr} {o:Oper} {q:Res} {p:Id}
theorem zanM (hT:ti B t=some T){u:AV}{n:Int}(h:zanN B t u n=some (y,ok))(hok:ok=true):zamg B T u n=some y:=by
 unfold zanN at h
 rw [hT] at h
 simp only at h
 unfold zamg
 split at h
 · rename_i len e hd
   simp only [hd]
   split at h
   · rename_i U vs hU hvs
     simp only [hU]
     split at h
     · rename_i hsz hag
       have hsz:U.size=1:=Nat.eq_of_beq_eq_true hsz
       have main:(0<=n/\n<len)->(∀ v∈vs,zasP v=true)->(vs[n.toNat]?).map AV.lit=some y->(if 0<=n/\n<len then match u with
           | .lit (.agg cs)=>zaox (.agg cs) (n.toNat*U.size) U.size U.agg
           | .agg xs=>AV.getAts xs (n.toNat*U.size) U.size U.agg
           | _=>none else none)=some y:=by
         intro h1 h2 h3
         rw [if_pos h1,hsz,hag]
         have e:=(zam1 hvs h2 n.toNat).trans h3
         unfold idxC at e
         exact e
       split at h
       · rename_i k hk;cases h
         simp only [Bool.and_eq_true,decide_eq_true_eq] at hok
         obtain ⟨h1,h2,h3⟩:=hok
         rw [List.all_eq_true] at h3
         refine main h1 (fun v hv => ?_) ?_
         · have:=h3 v hv;unfold zahI at this;split at this
           · rfl
           · cases this
         · have hlt:n.toNat<vs.length:=by omega
           rw [List.getElem?_eq_getElem hlt]
           have hmem:=h3 _ (List.getElem_mem hlt)
           unfold zahI at hmem
           split at hmem
           · rename_i k' a he
             have hk':k'=k:=of_decide_eq_true hmem
             have e1:(zaBC vs).getD n.toNat 0=a:=by
               rw [List.getD_eq_getElem?_getD,zaBC,List.getElem?_map,List.getElem?_eq_getElem hlt,he];rfl
             rw [he,e1,hk'];rfl
           · cases hmem
       · rename_i hk;cases h
         simp only [Bool.and_eq_true,decide_eq_true_eq] at hok
         obtain ⟨h1,h2,h3⟩:=hok
         rw [List.all_eq_true] at h3
         refine main h1 (fun v hv => ?_) ?_
         · have:=h3 v hv;unfold zakj at this;split at this
           · rfl
           · cases this
         · have hlt:n.toNat<vs.length:=by omega
           rw [List.getElem?_eq_getElem hlt]
           have hmem:=h3 _ (List.getElem_mem hlt)
           unfold zakj at hmem
           split at hmem
           · rename_i a he
             have e1:(zab vs).getD n.toNat ByteArray.empty=a:=by
               rw [List.getD_eq_getElem?_getD,zab,List.getElem?_map,List.getElem?_eq_getElem hlt,he];rfl
             rw [he,e1];rfl
           · cases hmem
       · cases h
     · cases h
   · cases h
 · rename_i hd
   simp only [hd]
   split at h
   · rename_i s;cases h
     have hok:=of_decide_eq_true hok
     show (if 0<=n then Option.map (fun b=>AV.lit (Value.int IntKind.u8 ↑b.toNat)) s[n.toNat]? else none)=_
     rw [if_pos hok.1]
     have hlt:n.toNat<s.size:=by omega
     have e1:s[n.toNat]?=some (s.data.getD n.toNat 0):=by
       rw [getElem?_pos s n.toNat hlt]
       congr 1
       show s.data[n.toNat]=_
       have hlt':n.toNat<s.data.size:=hlt
       rw [Array.getD_eq_getD_getElem?,Array.getElem?_eq_getElem hlt'];rfl
     rw [e1];rfl
   · cases h
 · cases h
def zalf (U:TI)(look:Nat->Option Ent)(x:AV)(lo hi:Option Int):Option (AV × Bool) :=
 match x with
 | .lst ex sz xs=>match hi with
  | none=>some (.lst ex sz (xs.drop (lo.getD 0).toNat),decide (0<=lo.getD 0/\lo.getD 0<=xs.length)&&Nat.beq sz U.size)
  | some h=>match ex with
   | false=>some (.lst false sz ((xs.drop (lo.getD 0).toNat).take (h-lo.getD 0).toNat),decide (0<=lo.getD 0/\lo.getD 0<=h/\h<=xs.length)&&Nat.beq sz U.size)
   | true=>none
 | .slc l i off len=>match look l with
  | some en=>match en.obj with
   | .row _ sz _=>some (.slc l i (off+(lo.getD 0).toNat) (hi.getD len-lo.getD 0).toNat,decide (0<=lo.getD 0/\lo.getD 0<=hi.getD len/\hi.getD len<=len)&&(decide (en.id=i)&&Nat.beq sz U.size))
   | _=>none
  | none=>none
 | _=>none
def zanP (B:Tb)(t:TypeId)(look:Nat->Option Ent)(x:AV)(lo hi mx:Option Int):Option (AV × Bool) :=
 match ti B t with
 | some T=>match T.desc with
  | .string=>match x with
   | .lit (.string s)=>some (.lit (.string (s.extract (lo.getD 0).toNat (hi.getD s.size).toNat)),decide (0<=lo.getD 0/\lo.getD 0<=hi.getD s.size/\hi.getD s.size<=s.size/\mx.isSome=false))
   | _=>none
  | .slice e=>match mx with
   | none=>match ti B e with
    | some U=>zalf U look x lo hi
    | none=>none
   | some _=>none
  | _=>none
 | none=>none
theorem zale {U:TI}{lo hi:Option Int}(h:zalf U look x lo hi=some (y,ok))(hok:ok=true){e:TypeId}(hd:T.desc = .slice e)(hU:ti B e=some U):zaid B T look x lo hi none=some y:=by
 unfold zalf at h
 unfold zaid
 simp only [hd,hU]
 split at h
 · rename_i ex sz xs
   have hn:zaoq U (.lst ex sz xs) = .lst ex sz xs:=rfl
   simp only [hn,Option.getD_none,Option.isSome_none,Option.isNone_none,Bool.false_and,Bool.false_or,Bool.true_and,Bool.false_eq_true,false_implies,and_true]
   split at h
   · cases h
     simp only [Bool.and_eq_true,decide_eq_true_eq] at hok
     obtain ⟨⟨h1,h2⟩,h3⟩:=hok
     have h3:=Nat.eq_of_beq_eq_true h3
     simp only [Option.getD_none,Int.le_refl,true_and,beq_self_eq_true,Bool.and_true]
     rw [if_pos ⟨h1,h2,h3⟩]
     congr 2
     exact List.take_of_length_le (by rw [List.length_drop];omega)
   · rename_i hv
     split at h
     · cases h
       simp only [Bool.and_eq_true,decide_eq_true_eq] at hok
       obtain ⟨⟨h1,h2,h4⟩,h3⟩:=hok
       have h3:=Nat.eq_of_beq_eq_true h3
       simp only [Option.getD_some,Int.le_refl,true_and,Bool.false_and]
       rw [if_pos ⟨h1,h2,h4,h3⟩]
     · cases h
 · rename_i l i off len
   have hn:zaoq U (.slc l i off len) = .slc l i off len:=rfl
   simp only [hn,Option.getD_none,Option.isSome_none,Bool.false_eq_true,false_implies,and_true]
   split at h
   · rename_i en hen
     split at h
     · rename_i hobj;cases h
       simp only [Bool.and_eq_true,decide_eq_true_eq] at hok
       obtain ⟨⟨h1,h2,h4⟩,h3,h5⟩:=hok
       have h5:=Nat.eq_of_beq_eq_true h5
       rw [if_pos ⟨h1,h2,Int.le_refl _,h4⟩]
       by_cases h0:lo.getD 0=0
       · rw [if_pos h0,h0];simp
       · rw [if_neg h0];simp only [hen,hobj]
         rw [if_pos h3,if_pos h5]
     · cases h
   · cases h
 · cases h
theorem zanO (hT:ti B t=some T){lo hi mx:Option Int}(h:zanP B t look x lo hi mx=some (y,ok))(hok:ok=true):zaid B T look x lo hi mx=some y:=by
 unfold zanP at h
 rw [hT] at h
 simp only at h
 split at h
 · rename_i hd
   split at h
   · rename_i s;cases h
     unfold zaid
     simp only [hd]
     rw [if_pos (of_decide_eq_true hok)]
   · cases h
 · rename_i e hd
   split at h
   · split at h
     · rename_i U hU;exact zale h hok hd hU
     · cases h
   · cases h
 · cases h
def numA:AV->Int
 | .lit v=>match v with
  | .int _ n=>n
  | _=>0
 | _=>0
def zafw (a:Int):List Value->List AV->Int
 | .int _ b::ks,v::vs=>if a=b then numA v else zafw a ks vs
 | _,_=>0
def hasI (a:Int):List Value->Bool
 | .int _ b::ks=>if a=b then true else hasI a ks
 | _=>false
def isIntL (k:IntKind):AV->Bool
 | .lit (.int k' _)=>decide (k'=k)
 | _=>false
def zajc (P:Program)(B:Tb)(t:TypeId)(look:Nat->Option Ent)(x key:AV)(c:Bool):Option (AV × Bool) :=
 match ti B t with
 | some T=>match T.desc with
  | .map kt et=>match key with
   | .lit (.int kk a)=>match zajv look x,ti B kt,ti B et with
    | some (ks,vs),some K,some U=>match K.desc,U.zero with
     | .int k',some (.int kv 0)=>match c with
      | false=>some (.lit (.int kv (zafw a ks vs)),decide (kk=k')&&(Nat.beq ks.length vs.length&&(ks.all (zahI kk)&&(vs.all (isIntL kv)&&(zaeg P (Instr.checkKey ks.isEmpty 10000 kt (.int kk a))).isSome))))
      | true=>some (.tup [.lit (.int kv (zafw a ks vs)),.lit (.bool (hasI a ks))],decide (kk=k')&&(Nat.beq ks.length vs.length&&(ks.all (zahI kk)&&(vs.all (isIntL kv)&&(zaeg P (Instr.checkKey ks.isEmpty 10000 kt (.int kk a))).isSome))))
     | _,_=>none
    | _,_,_=>none
   | _=>none
  | _=>none
 | none=>none
theorem zaf2 {k:IntKind}{a:Int}:∀ {ks:List Value} {vs:List AV} {i:Nat},ks.length=vs.length->ks.all (zahI k)=true ->
  ∃ r,zacR (.int k) (.int k a) ks i=some r/\(match r with
   | some j=>∃ m,j=i+m/\m<vs.length/\hasI a ks=true/\∀ v,vs[m]?=some v->zafw a ks vs=numA v
   | none=>hasI a ks=false/\zafw a ks vs=0)
 | [],vs,i,_,_=>⟨none,rfl,rfl,by simp [zafw]⟩
 | q::ks,[],i,h,_=>by cases h
 | q::ks,v::vs,i,h,h1=>by
  rw [List.all_cons,Bool.and_eq_true] at h1
  obtain ⟨b,rfl⟩:∃ b,q = .int k b:=by
   have:=h1.1;unfold zahI at this;split at this
   · rename_i k' b;exact ⟨b,by rw [of_decide_eq_true this]⟩
   · cases this
  have hs:Instr.sameNow (.int k) (.int k a) (.int k b)=some (a==b):=by simp [Instr.sameNow]
  unfold zacR
  rw [hs]
  by_cases hab:a=b
  · have:(a==b)=true:=by simpa using hab
    rw [this]
    refine ⟨some i,rfl,0,rfl,by simp,by unfold hasI;rw [if_pos hab],?_⟩
    intro w hw
    cases hw
    rw [zafw,if_pos hab]
  · have:(a==b)=false:=by simpa using hab
    rw [this]
    obtain ⟨r,e1,e2⟩:=zaf2 (a:=a) (ks:=ks) (vs:=vs) (i:=i+1) (by simpa using h) h1.2
    refine ⟨r,e1,?_⟩
    have hl:zafw a (.int k b::ks) (v::vs)=zafw a ks vs:=by rw [zafw,if_neg hab]
    have hh:hasI a (.int k b::ks)=hasI a ks:=by rw [hasI,if_neg hab]
    cases r with
    | none=>exact ⟨by rw [hh];exact e2.1,by rw [hl];exact e2.2⟩
    | some j =>
      obtain ⟨m,rfl,g2,g3,g4⟩:=e2
      refine ⟨m+1,by omega,by simpa using g2,by rw [hh];exact g3,?_⟩
      intro w hw;rw [hl];exact g4 w hw
theorem zalb {P:Program}(hT:ti B t=some T){key:AV}{c:Bool}(h:zajc P B t look x key c=some (y,ok))(hok:ok=true):zafV P B T look x key c=some y:=by
 unfold zajc at h
 rw [hT] at h
 simp only at h
 split at h
 · rename_i kt et hd
   split at h
   · rename_i kk a
     split at h
     · rename_i ks vs K U hmv hK hU
       split at h
       · rename_i k' kv hKd hz
         have main:(decide (kk=k')&&(Nat.beq ks.length vs.length&&(ks.all (zahI kk)&&(vs.all (isIntL kv)&&(zaeg P (Instr.checkKey ks.isEmpty 10000 kt (.int kk a))).isSome))))=true ->
             zafV P B T look x (.lit (.int kk a)) c=some (match c with|false => .lit (.int kv (zafw a ks vs))|true => .tup [.lit (.int kv (zafw a ks vs)),.lit (.bool (hasI a ks))]):=by
           intro hok
           simp only [Bool.and_eq_true,decide_eq_true_eq] at hok
           obtain ⟨rfl,h1,h2,h3,h4⟩:=hok
           obtain ⟨u,hu⟩:=Option.isSome_iff_exists.1 h4
           obtain ⟨r,e1,e2⟩:=zaf2 (a:=a) (vs:=vs) (i:=0) (Nat.eq_of_beq_eq_true h1) h2
           unfold zafV
           simp only [hd,AV.val?,hmv,hK,hU,hu,zaAl,hKd,e1]
           cases r with
           | none=>simp only [hz];cases c<;>simp only [e2.1,e2.2]
           | some j =>
             obtain ⟨m,rfl,g2,g3,g4⟩:=e2
             have hm:=List.all_eq_true.1 h3 _ (List.getElem_mem g2)
             have g5:=g4 _ (List.getElem?_eq_getElem g2)
             have g6:vs[0+m]?=some (.lit (.int kv (zafw a ks vs))):=by
               rw [Nat.zero_add,List.getElem?_eq_getElem g2]
               revert hm g5
               generalize vs[m]=z
               intro hm g5
               unfold isIntL at hm
               split at hm
               · have:=of_decide_eq_true hm;subst this
                 rw [g5];rfl
               · cases hm
             simp only [g6,g3]
             cases c<;>rfl
         split at h
         · cases h;exact main hok
         · cases h;exact main hok
       · cases h
     · cases h
   · cases h
 · cases h
def intA:AV->Int
 | .lit v=>match v with
  | .int _ n=>n
  | _=>0
 | _=>0
def strA:AV->ByteArray
 | .lit v=>match v with
  | .string s=>s
  | _=>ByteArray.empty
 | _=>ByteArray.empty
def zaHF:AV->Bool
 | .lit v=>match v with
  | .bool b=>b
  | _=>false
 | _=>false
def zaDf:AV->Array Value
 | .lit v=>match v with
  | .agg cs=>cs
  | _ => #[]
 | _ => #[]
def nthA (i:Nat):AV->AV
 | .agg xs=>xs.getD i (.lit undef)
 | _ => .lit undef
def elsA:AV->List AV
 | .lst _ _ xs=>xs
 | _=>[]
def refA:AV->AV
 | .ref x=>x
 | _ => .lit undef
def shF (g:TypeId->AV->AV):List Field->Nat->AV->List AV
 | [],_,_=>[]
 | fd::r,i,y=>g fd.type (nthA i y)::shF g r (i+1) y
def isF (g:TypeId->AV->Bool):List Field->Nat->AV->Bool
 | [],_,_=>true
 | fd::r,i,y=>g fd.type (nthA i y)&&isF g r (i+1) y
def shp (B:Tb):Nat->TypeId->AV->AV
 | 0,_,y=>y
 | m+1,t,y=>match ti B t with
  | some T=>match T.desc with
   | .int k => .lit (.int k (intA y))
   | .string => .lit (.string (strA y))
   | .bool => .lit (.bool (zaHF y))
   | .struct fs => .agg (shF (shp B m) fs.toList 0 y)
   | .slice e=>match ti B e with
    | some U => .lst false U.size (elsA y)
    | none=>y
   | .pointer _ => .ref (refA y)
   | .array _ _ => .lit (.agg (zaDf y))
   | _=>y
  | none=>y
def zaaF (B:Tb):Nat->TypeId->AV->Bool
 | 0,_,_=>true
 | m+1,t,y=>match ti B t with
  | some T=>match T.desc with
   | .int k=>match y with
    | .lit v=>match v with
     | .int k' _=>decide (k'=k)
     | _=>false
    | _=>false
   | .string=>match y with
    | .lit v=>match v with
     | .string _=>true
     | _=>false
    | _=>false
   | .bool=>match y with
    | .lit v=>match v with
     | .bool _=>true
     | _=>false
    | _=>false
   | .struct fs=>match y with
    | .agg xs=>Nat.beq xs.length fs.toList.length&&isF (zaaF B m) fs.toList 0 y
    | _=>false
   | .slice e=>match ti B e with
    | some U=>match y with
     | .lst ex sz _=>!ex&&Nat.beq sz U.size
     | _=>false
    | none=>true
   | .pointer _=>match y with
    | .ref _=>true
    | _=>false
   | .array _ _=>match y with
    | .lit v=>match v with
     | .agg _=>true
     | _=>false
    | _=>false
   | _=>true
  | none=>true
theorem zavF {g:TypeId->AV->AV}{h:TypeId->AV->Bool}(hgh:∀ t y,h t y=true->g t y=y)(xs:List AV):∀ (fs:List Field) (i:Nat),isF h fs i (.agg xs)=true->xs.length=i+fs.length->shF g fs i (.agg xs)=xs.drop i
 | [],i,_,hl=>by
  rw [shF,List.drop_eq_nil_of_le (by simp at hl;omega)]
 | fd::r,i,hi,hl=>by
  rw [isF,Bool.and_eq_true] at hi
  have hlt:i<xs.length:=by simp at hl;omega
  rw [shF,hgh _ _ hi.1,zavF hgh xs r (i+1) hi.2 (by simp at hl ⊢;omega),List.drop_eq_getElem_cons hlt]
  simp [nthA,List.getD_eq_getElem?_getD,List.getElem?_eq_getElem hlt]
theorem zanV {B:Tb}:∀ (m:Nat) (t:TypeId) (y:AV),zaaF B m t y=true->shp B m t y=y
 | 0,_,_,_=>rfl
 | m+1,t,y,h=>by
  unfold zaaF at h
  unfold shp
  split at h
  · rename_i T hT
    generalize T.desc=D at h ⊢
    cases D with
    | int k =>
      simp only at h ⊢
      split at h
      · split at h
        · have:=of_decide_eq_true h;subst this;rfl
        · cases h
      · cases h
    | string =>
      simp only at h ⊢
      split at h
      · split at h
        · rfl
        · cases h
      · cases h
    | bool =>
      simp only at h ⊢
      split at h
      · split at h
        · rfl
        · cases h
      · cases h
    | struct fs =>
      simp only at h ⊢
      split at h
      · rename_i xs
        rw [Bool.and_eq_true] at h
        have hl:=Nat.eq_of_beq_eq_true h.1
        rw [zavF (fun t y=>zanV m t y) xs _ 0 h.2 (by omega),List.drop_zero]
      · cases h
    | slice e =>
      simp only at h ⊢
      split at h
      · rename_i U hU
        split at h
        · rename_i ex sz xs
          rw [Bool.and_eq_true,Bool.not_eq_true'] at h
          rw [h.1,Nat.eq_of_beq_eq_true h.2];rfl
        · cases h
      · simp only
    | pointer e =>
      simp only at h ⊢
      split at h
      · rfl
      · cases h
    | array n e =>
      simp only at h ⊢
      split at h
      · split at h
        · rfl
        · cases h
      · cases h
    | _=>rfl
  · rfl
def shN:Nat:=8
def zajd (B:Tb)(t:TypeId)(look:Nat->Option Ent)(y:AV):Option (AV × Bool) :=
 match ti B t with
 | some T=>match y with
  | .ptr l i k s=>match look l with
   | some e=>match e.obj with
    | .row _ _ xs=>match (shp B shN t (xs.getD k (.lit undef))).getAt s T.size T.agg with
     | some z=>some (z,decide (e.id=i)&&(Nat.ble (k+1) xs.length&&zaaF B shN t (xs.getD k (.lit undef))))
     | none=>none
    | _=>none
   | none=>none
  | _=>none
 | none=>none
theorem zalc (hT:ti B t=some T)(h:zajd B t look y=some (x,ok))(hok:ok=true):zasG T look y=some x:=by
 unfold zajd at h
 rw [hT] at h
 simp only at h
 split at h
 · split at h
   · rename_i e he
     split at h
     · rename_i hobj
       split at h
       · rename_i z hz;cases h
         simp only [Bool.and_eq_true,decide_eq_true_eq] at hok
         obtain ⟨h1,h2,h3⟩:=hok
         have h2:=Nat.le_of_ble_eq_true h2
         rename_i xs _ _
         have hget:xs[_]?=some _:=List.getElem?_eq_getElem h2
         rw [zanV _ _ _ h3,List.getD_eq_getElem?_getD,hget,Option.getD_some] at hz
         unfold zasG zaow
         simp only [he,hobj,hget,hz]
         rw [if_pos h1]
       · cases h
     · cases h
   · cases h
 · cases h
def zagd (B:Tb)(t:TypeId)(look:Nat->Option Ent)(y x:AV):Option (Upd × Bool) :=
 match ti B t with
 | some T=>match x with
  | .ptr l i k s=>match look l with
   | some e=>match e.obj with
    | .row pu sz xs=>match (shp B shN t (xs.getD k (.lit undef))).setAt s T.size T.agg y with
     | some z=>some ([(l,⟨i,.row (pu&&zabF y) sz (xs.set k z)⟩)],decide (e.id=i)&&(Nat.ble (k+1) xs.length&&(zaaF B shN t (xs.getD k (.lit undef))&&(y.storable&&(Nat.beq y.fsz T.size&&(T.agg||y.leaf))))))
     | none=>none
    | _=>none
   | none=>none
  | _=>none
 | none=>none
theorem zaj2 (hT:ti B t=some T){u:Upd}(h:zagd B t look y x=some (u,ok))(hok:ok=true):zalj T look y x=some u:=by
 unfold zagd at h
 rw [hT] at h
 simp only at h
 split at h
 · rename_i l i k s
   split at h
   · rename_i e he
     split at h
     · rename_i pu rz xs hobj
       split at h
       · rename_i z hz;cases h
         simp only [Bool.and_eq_true,decide_eq_true_eq,Bool.or_eq_true] at hok
         obtain ⟨h1,h2,h3,h4,h5,h6⟩:=hok
         have h2:=Nat.le_of_ble_eq_true h2
         have h5:=Nat.eq_of_beq_eq_true h5
         have hget:xs[k]?=some (xs[k]'h2):=List.getElem?_eq_getElem h2
         rw [zanV _ _ _ h3,List.getD_eq_getElem?_getD,hget,Option.getD_some] at hz
         unfold zalj zali
         simp only [he,hobj,hget,hz]
         rw [if_pos ⟨h1,h4,h5,h6⟩]
       · cases h
     · cases h
   · cases h
 · cases h
def zaje (B:Tb)(t:TypeId)(look:Nat->Option Ent)(x:AV)(n:Int):Option (AV × Bool) :=
 match ti B t with
 | some T=>match T.desc with
  | .slice e=>match ti B e with
   | some U=>match x with
    | .slc l i off len=>match look l with
     | some en=>match en.obj with
      | .row _ sz _=>some (.ptr l i (off+n.toNat) 0,decide (0<=n/\n<len)&&(decide (en.id=i)&&Nat.beq sz U.size))
      | _=>none
     | none=>none
    | .lst _ sz xs=>some (.ref (shp B shN e (xs.getD n.toNat (.lit undef))),decide (0<=n/\n<xs.length)&&(Nat.beq sz U.size&&(zaaF B shN e (xs.getD n.toNat (.lit undef))&&(U.agg||(shp B shN e (xs.getD n.toNat (.lit undef))).leaf))))
    | _=>none
   | none=>none
  | _=>none
 | none=>none
theorem zald (hT:ti B t=some T){n:Int}(h:zaje B t look x n=some (y,ok))(hok:ok=true):zad3 B T look x n=some y:=by
 have hA:∀ e,T.desc = .slice e->zad3 B T look x n=zacQ B T look x n:=fun e hd=>by
  unfold zad3 zagP
  simp only [hd]
 unfold zaje at h
 rw [hT] at h
 simp only at h
 split at h
 · rename_i e hd
   rw [hA e hd]
   unfold zacQ
   simp only [hd]
   split at h
   · rename_i U hU
     simp only [hU]
     split at h
     · split at h
       · rename_i en hen
         split at h
         · rename_i hobj;cases h
           simp only [Bool.and_eq_true,decide_eq_true_eq] at hok
           simp only [hen,hobj]
           rw [if_pos hok.1,if_pos hok.2.1,if_pos (Nat.eq_of_beq_eq_true hok.2.2)]
         · cases h
       · cases h
     · rename_i sz xs;cases h
       simp only [Bool.and_eq_true,decide_eq_true_eq,Bool.or_eq_true] at hok
       obtain ⟨h1,h2,h3,h4⟩:=hok
       have hlt:n.toNat<xs.length:=by omega
       simp only
       rw [if_pos ⟨h1.1,Nat.eq_of_beq_eq_true h2⟩,List.getElem?_eq_getElem hlt]
       simp only
       have e1:xs.getD n.toNat (.lit undef)=xs[n.toNat]:=by rw [List.getD_eq_getElem?_getD,List.getElem?_eq_getElem hlt];rfl
       rw [e1] at h3 h4 ⊢
       rw [zanV _ _ _ h3] at h4 ⊢
       rw [if_pos h4]
     · cases h
   · cases h
 · cases h
def symR (C:Cx)(fr:Fr)(look:Nat->Option Ent)(o:Oper):Option Res:=match o.op with
 | .load t x=>match ev C fr x with
  | some y=>match zajd C.B t look y with
   | some (x,ok)=>some ⟨x,[],ok⟩
   | none=>none
  | none=>none
 | .indexAddr t x i=>match ev C fr x,ev C fr i with
  | some u,some (.lit (.int _ n))=>match zaje C.B t look u n with
   | some (y,ok)=>some ⟨y,[],ok⟩
   | none=>none
  | _,_=>none
 | .store t x y=>match ev C fr x,ev C fr y with
  | some u,some v=>match zagd C.B t look v u with
   | some (upd,ok)=>some ⟨.lit undef,upd,ok⟩
   | none=>none
  | _,_=>none
 | .index t x i=>match ev C fr x,ev C fr i with
  | some u,some (.lit (.int _ n))=>match zanN C.B t u n with
   | some (y,ok)=>some ⟨y,[],ok⟩
   | none=>none
  | _,_=>none
 | .slice t x lo hi mx=>match ev C fr x,evo C fr lo,evo C fr hi,evo C fr mx with
  | some u,some l,some h,some m=>match zanP C.B t look u l h m with
   | some (y,ok)=>some ⟨y,[],ok⟩
   | none=>none
  | _,_,_,_=>none
 | .lookup t x i c=>match ev C fr x,ev C fr i with
  | some u,some k=>match zajc C.P C.B t look u k c with
   | some (y,ok)=>some ⟨y,[],ok⟩
   | none=>none
  | _,_=>none
 | _=>none
theorem zapI (h:symR C fr look o=some q)(hok:q.ok=true)(p:Id):opE C fr look p o=some ⟨q.x,q.upd,true⟩:=by
 unfold symR at h
 split at h
 · rename_i t x hop
   split at h
   · rename_i y hy
     split at h
     · rename_i z ok hs;cases h
       have hT:∃ T,ti C.B t=some T:=by
         unfold zajd at hs
         split at hs
         · rename_i T hT;exact ⟨T,hT⟩
         · cases hs
       obtain ⟨T,hT⟩:=hT
       unfold opE;simp only [hop]
       unfold zasw;simp only [hT,hy,zalc hT hs hok,okd]
     · cases h
   · cases h
 · rename_i t x i hop
   split at h
   · rename_i u n hu hn
     split at h
     · rename_i y ok hs;cases h
       have hT:∃ T,ti C.B t=some T:=by
         unfold zaje at hs
         split at hs
         · rename_i T hT;exact ⟨T,hT⟩
         · cases hs
       obtain ⟨T,hT⟩:=hT
       unfold opE;simp only [hop]
       unfold zadW;simp only [hT,hu,hn,zald hT hs hok,okd]
     · cases h
   · cases h
 · rename_i t x y hop
   split at h
   · rename_i u v hu hv
     split at h
     · rename_i upd ok hs;cases h
       have hT:∃ T,ti C.B t=some T:=by
         unfold zagd at hs
         split at hs
         · rename_i T hT;exact ⟨T,hT⟩
         · cases hs
       obtain ⟨T,hT⟩:=hT
       unfold opE;simp only [hop]
       unfold zalN;simp only [hT,hu,hv,zaj2 hT hs hok]
     · cases h
   · cases h
 · rename_i t x i hop
   split at h
   · rename_i u n hu hn
     split at h
     · rename_i y ok hs;cases h
       have hT:∃ T,ti C.B t=some T:=by
         unfold zanN at hs
         split at hs
         · rename_i T hT;exact ⟨T,hT⟩
         · cases hs
       obtain ⟨T,hT⟩:=hT
       unfold opE;simp only [hop]
       unfold zalQ;simp only [hT,hu,hn,zanM hT hs hok,okd]
     · cases h
   · cases h
 · rename_i t x lo hi mx hop
   split at h
   · rename_i u l hh m hu hl hhi hm
     split at h
     · rename_i y ok hs;cases h
       have hT:∃ T,ti C.B t=some T:=by
         unfold zanP at hs
         split at hs
         · rename_i T hT;exact ⟨T,hT⟩
         · cases hs
       obtain ⟨T,hT⟩:=hT
       unfold opE;simp only [hop]
       unfold zalO;simp only [hT,hu,hl,hhi,hm,zanU,zanO hT hs hok,okd]
     · cases h
   · cases h
 · rename_i t x i c hop
   split at h
   · rename_i u k hu hk
     split at h
     · rename_i y ok hs;cases h
       have hT:∃ T,ti C.B t=some T:=by
         unfold zajc at hs
         split at hs
         · rename_i T hT;exact ⟨T,hT⟩
         · cases hs
       obtain ⟨T,hT⟩:=hT
       unfold opE;simp only [hop]
       unfold zaio;simp only [hT,hu,hk,zalb hT hs hok,okd]
     · cases h
   · cases h
 · cases h
def zakp (look:Nat->Option Ent)(sz:Nat):AV->Option (Bool × List AV × Bool)
 | .lst _ sz' xs=>some (true,xs,Nat.beq sz' sz)
 | .slc l i off len=>match look l with
  | some e=>match e.obj with
   | .row pu sz' xs=>some (pu,(xs.drop off).take len,decide (e.id=i)&&(Nat.beq sz' sz&&Nat.ble (off+len) xs.length))
   | _=>none
  | none=>none
 | _=>none
theorem zajO {sz:Nat}{pu:Bool}{xs:List AV}(h:zakp look sz x=some (pu,xs,ok))(hok:ok=true):zafE look sz x=some (pu,xs):=by
 unfold zakp at h
 split at h
 · cases h
   unfold zafE
   simp only [Nat.eq_of_beq_eq_true hok,if_true]
 · split at h
   · rename_i e he
     split at h
     · rename_i hobj;cases h
       simp only [Bool.and_eq_true,decide_eq_true_eq] at hok
       unfold zafE
       simp only [he,hobj]
       rw [if_pos hok.1,if_pos ⟨Nat.eq_of_beq_eq_true hok.2.1,Nat.le_of_ble_eq_true hok.2.2⟩]
     · cases h
   · cases h
 · cases h
def zage (B:Tb)(T T2:TI)(look:Nat->Option Ent)(dst src:AV)(p:Id):Option Res :=
 match T.desc with
 | .slice e=>match T2.desc with
  | .slice _=>match ti B e with
   | some U=>match U.zero with
    | some z=>match Nat.beq z.cells.size U.size with
     | true=>match dst with
      | .slc l i off len=>match zakp look U.size (.slc l i off len),zakp look U.size src with
       | some (px,xs,k1),some (py,ys,k2)=>some ⟨.slc l p 0 (xs++ys).length,[(l,⟨p,.row (px&&py) U.size (xs++ys)⟩)],k1&&(k2&&decide ((xs++ys).length*U.bytes<=140737488355328/\(xs++ys).length<=1152921504606846976))⟩
       | _,_=>none
      | _=>none
     | false=>none
    | none=>none
   | none=>none
  | _=>none
 | _=>none
theorem zagj {U:TI}{r:Bool × List AV × Bool}(h:zakp look U.size x=some r):zagk look U x=zafE look U.size x:=by
 unfold zakp at h
 split at h<;>first|rfl|(cases h;done)
theorem zaia {T2:TI}{dst src:AV}{d:Nat}(h:zage B T T2 look dst src p=some q)(hok:q.ok=true):zahW B T T2 look dst src d p=some ⟨q.x,q.upd,true⟩:=by
 unfold zage at h
 split at h
 · rename_i e hd
   split at h
   · rename_i e2 hd2
     split at h
     · rename_i U hU
       split at h
       · rename_i z hz
         split at h
         · rename_i hzs
           split at h
           · split at h
             · rename_i px xs k1 py ys k2 h1 h2;cases h
               simp only [Bool.and_eq_true] at hok
               unfold zahW
               simp only [hd,hd2,hU,hz,zagj h2,zajO h2 hok.2.1,Nat.eq_of_beq_eq_true hzs,if_true,zaoq,zajO h1 hok.1,hok.2.2]
             · cases h
           · cases h
         · cases h
       · cases h
     · cases h
   · cases h
 · cases h
def symA (C:Cx)(fr:Fr)(look:Nat->Option Ent)(p:Id)(o:Oper):Option Res:=match o.op with
 | .call k=>match k.callee with
  | .builtin b=>match b with
   | .append=>match evs C fr k.args.toList,k.argTypes.toList with
    | some [x,y],[t,t2]=>match ti C.B t,ti C.B t2 with
     | some T,some T2=>zage C.B T T2 look x y p
     | _,_=>none
    | _,_=>none
   | _=>none
  | _=>none
 | _=>none
theorem zapJ (h:symA C fr look p o=some q)(hok:q.ok=true):opE C fr look p o=some ⟨q.x,q.upd,true⟩:=by
 unfold symA at h
 split at h
 · rename_i k hop
   split at h
   · split at h
     · rename_i hcal
       split at h
       · rename_i x y t t2 hev hts
         split at h
         · rename_i T T2 hT hT2
           unfold opE;simp only [hop]
           unfold zasx;simp only [hcal,hev]
           unfold zagU;simp only [hts,hT,hT2,zaia h hok]
         · cases h
       · cases h
     · cases h
   · cases h
 · cases h
def zaB7 (C:Cx)(fr:Fr)(look:Nat->Option Ent)(p:Id)(o:Oper):Option Res:=match symR C fr look o with
 | some q=>some q
 | none=>symA C fr look p o
theorem zarH (h:zaB7 C fr look p o=some q)(hok:q.ok=true):opE C fr look p o=some ⟨q.x,q.upd,true⟩:=by grind [zaB7,zapI,zapJ]
def zaDN (o:Oper):Nat:=match o.op with
 | .load .. => o.dst.getD 0+1000000
 | .indexAddr .. => o.dst.getD 0+1000000
 | .store _ x _=>match x with
  | .tmp d=>d+3000000
  | _=>0
 | _=>o.dst.getD 0
inductive Fail (pos:String) (dst:Nat):Prop
def opS (sy:Bool)(C:Cx)(fr:Fr)(look:Nat->Option Ent)(p:Id)(o:Oper)(K:Bool->Res->Prop):Prop :=
 match (match sy with|true=>zaB7 C fr look p o|false=>none) with
 | some q=>K true q
 | none=>match opE C fr look p o with
  | some q=>K false q
  | none=>Fail o.pos (o.dst.getD 0)
theorem zaoi {sy:Bool}{K:Bool->Res->Prop}(h:opS sy C fr look p o K) :
  ∃ b q,K b q/\(q.ok=true->∃ q',opE C fr look p o=some q'/\q'.ok=true/\q'.x=q.x/\q'.upd=q.upd):=by
 unfold opS at h
 split at h
 · rename_i q hq
   refine ⟨true,q,h,fun hok=>⟨_,zarH (by cases sy<;>simp_all) hok,rfl,rfl,rfl⟩⟩
 · split at h
   · rename_i q hq;exact ⟨false,q,h,fun hok=>⟨q,hq,hok,rfl,rfl⟩⟩
   · cases h
end
end Go.AS
