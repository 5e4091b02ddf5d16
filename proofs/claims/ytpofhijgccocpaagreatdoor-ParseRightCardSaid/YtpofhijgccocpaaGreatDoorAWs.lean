/- Operations over values that are not known: comparisons of arrays. -/
import Derived.Test.YtpofhijgccocpaaGreatDoorAWa
namespace Go.AS
noncomputable section
def zae7 (xs:Array Value):List Int:=xs.toList.map fun | .int _ n=>n | _=>0
def zadA (k:IntKind):Value->Bool
 | .int k' _=>decide (k'=k)
 | _=>false
def zam8 (k:IntKind)(n:Nat)(xs:Array Value):Bool:=decide (xs.size=n)&&xs.toList.all (zadA k)
def arrK (B:Tb)(t:TypeId):Option (Nat × IntKind) :=
 match ti B t with
 | some T=>match T.desc with
  | .array n e=>match ti B e with
   | some U=>match U.desc,U.agg,Nat.beq U.size 1 with
    | .int k,false,true=>some (n,k)
    | _,_,_=>none
   | none=>none
  | _=>none
 | none=>none
theorem zaeN {q:Value->Value->Option Bool}{k:IntKind}(hq:∀ a b:Int,q (.int k a) (.int k b)=some (a==b)):∀ (n:Nat) (xs ys:List Value),xs.length=n->ys.length=n->xs.all (zadA k)=true->ys.all (zadA k)=true ->
  zacQ q n xs ys=some (decide ((xs.map fun | .int _ n=>n | _=>0)=(ys.map fun | .int _ n=>n | _=>(0:Int))))
 | 0,xs,ys,hx,hy,_,_=>by
  obtain rfl:=List.eq_nil_of_length_eq_zero hx
  obtain rfl:=List.eq_nil_of_length_eq_zero hy
  simp [zacQ]
 | n+1,[],ys,hx,_,_,_=>by cases hx
 | n+1,x::xs,[],_,hy,_,_=>by cases hy
 | n+1,x::xs,y::ys,hx,hy,h1,h2=>by
  rw [List.all_cons,Bool.and_eq_true] at h1 h2
  obtain ⟨a,rfl⟩:∃ a,x = .int k a:=by
   have:=h1.1; unfold zadA at this; split at this
   · rename_i k' a; exact ⟨a,by rw [of_decide_eq_true this]⟩
   · cases this
  obtain ⟨b,rfl⟩:∃ b,y = .int k b:=by
   have:=h2.1; unfold zadA at this; split at this
   · rename_i k' b; exact ⟨b,by rw [of_decide_eq_true this]⟩
   · cases this
  have ih:=zaeN hq n xs ys (by simpa using hx) (by simpa using hy) h1.2 h2.2
  unfold zacQ
  rw [hq]
  by_cases hab:a=b
  · subst hab; simp only [beq_self_eq_true,ih,List.map_cons]; congr 1; simp
  · have:(a==b)=false:=by simpa using hab
    rw [this]; simp [hab]
theorem zaly {B:Tb}{t:TypeId}{n:Nat}{k:IntKind}(h:arrK B t=some (n,k)){xs ys:Array Value}(hx:zam8 k n xs=true)(hy:zam8 k n ys=true) :
  zaqU B t xs.toList ys.toList=some (decide (zae7 xs=zae7 ys)):=by
 unfold arrK at h
 split at h
 · rename_i T hT
   split at h
   · rename_i m e hd
     split at h
     · rename_i U hU
       split at h
       · rename_i hUd hag hsz; cases h
         simp only [zam8,Bool.and_eq_true,decide_eq_true_eq] at hx hy
         unfold zaqU
         rw [hT]; simp only [hd,hU]
         have hb1:Nat.ble n xs.toList.length=true:=by simp [hx.1]
         have hb2:Nat.ble n ys.toList.length=true:=by simp [hy.1]
         have hf:zavv U.desc=true:=by rw [hUd]; rfl
         simp only [hf,hag,hsz,hb1,hb2]
         exact zaeN (fun a b=>by simp only [eqE,hU,hUd,if_true]) n _ _ (by simpa using hx.1) (by simpa using hy.1) hx.2 hy.2
       · cases h
     · cases h
   · cases h
 · cases h
def zav6:List AV->Option (List Value)
 | []=>some []
 | .lit v::r=>match zav6 r with
  | some vs=>some (v::vs)
  | none=>none
 | _::_=>none
def zaqt:AV->Option (List Value)
 | .lit (.agg cs)=>some cs.toList
 | .agg xs=>zav6 xs
 | _=>none
def zaaQ (xs:List Value):List ByteArray:=xs.map fun | .string s=>s | _=>ByteArray.empty
def zav7 (xs:List Value):List Int:=xs.map fun | .int _ n=>n | _=>0
def zaiP:Value->Bool
 | .string _=>true
 | _=>false
def zapN:Value->Bool
 | .string _=>true
 | .int _ _=>true
 | _=>false
def zaaa (s:ByteArray)(n:Nat):Nat:=(s.data.getD n 0).toNat
def zamh (B:Tb)(t:TypeId)(u:AV)(n:Int):Option (AV × Bool) :=
 match ti B t with
 | some T=>match T.desc with
  | .array len e=>match ti B e,zaqt u with
   | some U,some vs=>match Nat.beq U.size 1,U.agg with
    | true,false=>match U.desc with
     | .int k=>some (.lit (.int k ((zav7 vs).getD n.toNat 0)),decide (0<=n/\n<len)&&(decide (vs.length=len)&&vs.all (zadA k)))
     | .string=>some (.lit (.string ((zaaQ vs).getD n.toNat ByteArray.empty)),decide (0<=n/\n<len)&&(decide (vs.length=len)&&vs.all zaiP))
     | _=>none
    | _,_=>none
   | _,_=>none
  | .string=>match u with
   | .lit (.string s)=>some (.lit (.int .u8 (zaaa s n.toNat)),decide (0<=n/\n<s.size))
   | _=>none
  | _=>none
 | none=>none
theorem zaeF:∀ (xs:List AV) (vs:List Value),zav6 xs=some vs->(∀ v∈vs,zapN v=true)->∀ (j:Nat),AV.getAts xs j 1 false=(vs[j]?).map .lit
 | [],vs,h,_,j=>by cases h; simp [AV.getAts]
 | x::xs,vs,h,h1,j=>by
  unfold zav6 at h
  split at h
  · cases ‹_::_=[]›
  · rename_i v r he; cases he
    split at h
    · rename_i us hus; cases h
      have hv:=h1 v (List.mem_cons_self ..)
      have hsz:(AV.lit v).fsz=1:=by cases v <;> first | (cases hv; done) | rfl
      rw [AV.getAts,hsz]
      cases j with
      | zero =>
        simp only [Nat.lt_one_iff,if_true,List.getElem?_cons_zero,Option.map_some]
        rw [AV.getAt]
        cases v <;> first | (cases hv; done) | simp [zamJ]
      | succ j =>
        rw [if_neg (by omega),Nat.add_sub_cancel,zaeF xs us hus (fun u hu=>h1 u (List.mem_cons_of_mem _ hu)) j]
        simp
    · cases h
  · cases h
def idxC (u:AV)(j:Nat):Option AV:=match u with
 | .lit (.agg cs)=>zamJ (.agg cs) (j*1) 1 false
 | .agg xs=>AV.getAts xs (j*1) 1 false
 | _=>none
theorem zalN {u:AV}{vs:List Value}(h:zaqt u=some vs)(h1:∀ v∈vs,zapN v=true)(j:Nat):idxC u j=(vs[j]?).map AV.lit:=by
 unfold zaqt at h
 unfold idxC
 split at h
 · cases h
   simp [zamJ]
 · simp only [Nat.mul_one]
   exact zaeF _ _ h h1 j
 · cases h
theorem zamg {B:Tb}{t:TypeId}{T:TI}(hT:ti B t=some T){u y:AV}{n:Int}{ok:Bool}(h:zamh B t u n=some (y,ok))(hok:ok=true):zak1 B T u n=some y:=by
 unfold zamh at h
 rw [hT] at h
 simp only at h
 unfold zak1
 split at h
 · rename_i len e hd
   simp only [hd]
   split at h
   · rename_i U vs hU hvs
     simp only [hU]
     split at h
     · rename_i hsz hag
       have hsz:U.size=1:=Nat.eq_of_beq_eq_true hsz
       have main:(0<=n/\n<len)->(∀ v∈vs,zapN v=true)->(vs[n.toNat]?).map AV.lit=some y->(if 0<=n/\n<len then match u with
           | .lit (.agg cs)=>zamJ (.agg cs) (n.toNat*U.size) U.size U.agg
           | .agg xs=>AV.getAts xs (n.toNat*U.size) U.size U.agg
           | _=>none else none)=some y:=by
         intro h1 h2 h3
         rw [if_pos h1,hsz,hag]
         have e:=(zalN hvs h2 n.toNat).trans h3
         unfold idxC at e
         exact e
       split at h
       · rename_i k hk; cases h
         simp only [Bool.and_eq_true,decide_eq_true_eq] at hok
         obtain ⟨h1,h2,h3⟩:=hok
         rw [List.all_eq_true] at h3
         refine main h1 (fun v hv => ?_) ?_
         · have:=h3 v hv; unfold zadA at this; split at this
           · rfl
           · cases this
         · have hlt:n.toNat<vs.length:=by omega
           rw [List.getElem?_eq_getElem hlt]
           have hmem:=h3 _ (List.getElem_mem hlt)
           unfold zadA at hmem
           split at hmem
           · rename_i k' a he
             have hk':k'=k:=of_decide_eq_true hmem
             have e1:(zav7 vs).getD n.toNat 0=a:=by
               rw [List.getD_eq_getElem?_getD,zav7,List.getElem?_map,List.getElem?_eq_getElem hlt,he]; rfl
             rw [he,e1,hk']; rfl
           · cases hmem
       · rename_i hk; cases h
         simp only [Bool.and_eq_true,decide_eq_true_eq] at hok
         obtain ⟨h1,h2,h3⟩:=hok
         rw [List.all_eq_true] at h3
         refine main h1 (fun v hv => ?_) ?_
         · have:=h3 v hv; unfold zaiP at this; split at this
           · rfl
           · cases this
         · have hlt:n.toNat<vs.length:=by omega
           rw [List.getElem?_eq_getElem hlt]
           have hmem:=h3 _ (List.getElem_mem hlt)
           unfold zaiP at hmem
           split at hmem
           · rename_i a he
             have e1:(zaaQ vs).getD n.toNat ByteArray.empty=a:=by
               rw [List.getD_eq_getElem?_getD,zaaQ,List.getElem?_map,List.getElem?_eq_getElem hlt,he]; rfl
             rw [he,e1]; rfl
           · cases hmem
       · cases h
     · cases h
   · cases h
 · rename_i hd
   simp only [hd]
   split at h
   · rename_i s; cases h
     have hok:=of_decide_eq_true hok
     show (if 0<=n then Option.map (fun b=>AV.lit (Value.int IntKind.u8 ↑b.toNat)) s[n.toNat]? else none)=_
     rw [if_pos hok.1]
     have hlt:n.toNat<s.size:=by omega
     have e1:s[n.toNat]?=some (s.data.getD n.toNat 0):=by
       rw [getElem?_pos s n.toNat hlt]
       congr 1
       show s.data[n.toNat]=_
       have hlt':n.toNat<s.data.size:=hlt
       rw [Array.getD_eq_getD_getElem?,Array.getElem?_eq_getElem hlt']; rfl
     rw [e1]; rfl
   · cases h
 · cases h
def zakh (U:TI)(look:Nat->Option Ent)(x:AV)(lo hi:Option Int):Option (AV × Bool) :=
 match x with
 | .lst ex sz xs=>match hi with
  | none=>some (.lst ex sz (xs.drop (lo.getD 0).toNat),decide (0<=lo.getD 0/\lo.getD 0<=xs.length)&&Nat.beq sz U.size)
  | some h=>match ex with
   | false=>some (.lst false sz ((xs.drop (lo.getD 0).toNat).take (h-lo.getD 0).toNat),decide (0<=lo.getD 0/\lo.getD 0<=h/\h<=xs.length)&&Nat.beq sz U.size)
   | true=>none
 | .slc l i off len=>match look l with
  | some en=>match en.obj with
   | .row _ sz _=>some (.slc l i (off+(lo.getD 0).toNat) (hi.getD len-lo.getD 0).toNat,decide (0<=lo.getD 0/\lo.getD 0<=hi.getD len/\hi.getD len<=len)&&(decide (en.id=i)&&Nat.beq sz U.size))
   | _=>none
  | none=>none
 | _=>none
def zamj (B:Tb)(t:TypeId)(look:Nat->Option Ent)(x:AV)(lo hi mx:Option Int):Option (AV × Bool) :=
 match ti B t with
 | some T=>match T.desc with
  | .string=>match x with
   | .lit (.string s)=>some (.lit (.string (s.extract (lo.getD 0).toNat (hi.getD s.size).toNat)),decide (0<=lo.getD 0/\lo.getD 0<=hi.getD s.size/\hi.getD s.size<=s.size/\mx.isSome=false))
   | _=>none
  | .slice e=>match mx with
   | none=>match ti B e with
    | some U=>zakh U look x lo hi
    | none=>none
   | some _=>none
  | _=>none
 | none=>none
theorem zakg {U:TI}{look:Nat->Option Ent}{x y:AV}{lo hi:Option Int}{ok:Bool}(h:zakh U look x lo hi=some (y,ok))(hok:ok=true){B:Tb}{T:TI}{e:TypeId}(hd:T.desc = .slice e)(hU:ti B e=some U):zaho B T look x lo hi none=some y:=by
 unfold zakh at h
 unfold zaho
 simp only [hd,hU]
 split at h
 · rename_i ex sz xs
   have hn:zamG U (.lst ex sz xs) = .lst ex sz xs:=rfl
   simp only [hn,Option.getD_none,Option.isSome_none,Option.isNone_none,Bool.false_and,Bool.false_or,Bool.true_and,Bool.false_eq_true,false_implies,and_true]
   split at h
   · cases h
     simp only [Bool.and_eq_true,decide_eq_true_eq] at hok
     obtain ⟨⟨h1,h2⟩,h3⟩:=hok
     have h3:=Nat.eq_of_beq_eq_true h3
     simp only [Option.getD_none,Int.le_refl,true_and,beq_self_eq_true,Bool.and_true]
     rw [if_pos ⟨h1,h2,h3⟩]
     congr 2
     exact List.take_of_length_le (by rw [List.length_drop]; omega)
   · rename_i hv
     split at h
     · cases h
       simp only [Bool.and_eq_true,decide_eq_true_eq] at hok
       obtain ⟨⟨h1,h2,h4⟩,h3⟩:=hok
       have h3:=Nat.eq_of_beq_eq_true h3
       simp only [Option.getD_some,Int.le_refl,true_and,Bool.false_and]
       rw [if_pos ⟨h1,h2,h4,h3⟩]
     · cases h
 · rename_i l i off len
   have hn:zamG U (.slc l i off len) = .slc l i off len:=rfl
   simp only [hn,Option.getD_none,Option.isSome_none,Bool.false_eq_true,false_implies,and_true]
   split at h
   · rename_i en hen
     split at h
     · rename_i hobj; cases h
       simp only [Bool.and_eq_true,decide_eq_true_eq] at hok
       obtain ⟨⟨h1,h2,h4⟩,h3,h5⟩:=hok
       have h5:=Nat.eq_of_beq_eq_true h5
       rw [if_pos ⟨h1,h2,Int.le_refl _,h4⟩]
       by_cases h0:lo.getD 0=0
       · rw [if_pos h0,h0]; simp
       · rw [if_neg h0]; simp only [hen,hobj]
         rw [if_pos h3,if_pos h5]
     · cases h
   · cases h
 · cases h
theorem zami {B:Tb}{t:TypeId}{T:TI}(hT:ti B t=some T){look:Nat->Option Ent}{x y:AV}{lo hi mx:Option Int}{ok:Bool}(h:zamj B t look x lo hi mx=some (y,ok))(hok:ok=true):zaho B T look x lo hi mx=some y:=by
 unfold zamj at h
 rw [hT] at h
 simp only at h
 split at h
 · rename_i hd
   split at h
   · rename_i s; cases h
     unfold zaho
     simp only [hd]
     rw [if_pos (of_decide_eq_true hok)]
   · cases h
 · rename_i e hd
   split at h
   · split at h
     · rename_i U hU; exact zakg h hok hd hU
     · cases h
   · cases h
 · cases h
def numA:AV->Int
 | .lit v=>match v with
  | .int _ n=>n
  | _=>0
 | _=>0
def zajs (a:Int):List Value->List AV->Int
 | .int _ b::ks,v::vs=>if a=b then numA v else zajs a ks vs
 | _,_=>0
def hasI (a:Int):List Value->Bool
 | .int _ b::ks=>if a=b then true else hasI a ks
 | _=>false
def isIntL (k:IntKind):AV->Bool
 | .lit (.int k' _)=>decide (k'=k)
 | _=>false
def zain (P:Program)(B:Tb)(t:TypeId)(look:Nat->Option Ent)(x key:AV)(c:Bool):Option (AV × Bool) :=
 match ti B t with
 | some T=>match T.desc with
  | .map kt et=>match key with
   | .lit (.int kk a)=>match zagQ look x,ti B kt,ti B et with
    | some (ks,vs),some K,some U=>match K.desc,U.zero with
     | .int k',some (.int kv 0)=>match c with
      | false=>some (.lit (.int kv (zajs a ks vs)),decide (kk=k')&&(Nat.beq ks.length vs.length&&(ks.all (zadA kk)&&(vs.all (isIntL kv)&&(zahf P (Instr.checkKey ks.isEmpty 10000 kt (.int kk a))).isSome))))
      | true=>some (.tup [.lit (.int kv (zajs a ks vs)), .lit (.bool (hasI a ks))],decide (kk=k')&&(Nat.beq ks.length vs.length&&(ks.all (zadA kk)&&(vs.all (isIntL kv)&&(zahf P (Instr.checkKey ks.isEmpty 10000 kt (.int kk a))).isSome))))
     | _,_=>none
    | _,_,_=>none
   | _=>none
  | _=>none
 | none=>none
theorem zafw {k:IntKind}{a:Int}:∀ {ks:List Value} {vs:List AV} {i:Nat},ks.length=vs.length->ks.all (zadA k)=true ->
  ∃ r,zacu (.int k) (.int k a) ks i=some r/\(match r with
   | some j=>∃ m,j=i+m/\m<vs.length/\hasI a ks=true/\∀ v,vs[m]?=some v->zajs a ks vs=numA v
   | none=>hasI a ks=false/\zajs a ks vs=0)
 | [],vs,i,_,_=>⟨none,rfl,rfl,by simp [zajs]⟩
 | q::ks,[],i,h,_=>by cases h
 | q::ks,v::vs,i,h,h1=>by
  rw [List.all_cons,Bool.and_eq_true] at h1
  obtain ⟨b,rfl⟩:∃ b,q = .int k b:=by
   have:=h1.1; unfold zadA at this; split at this
   · rename_i k' b; exact ⟨b,by rw [of_decide_eq_true this]⟩
   · cases this
  have hs:Instr.sameNow (.int k) (.int k a) (.int k b)=some (a==b):=by simp [Instr.sameNow]
  unfold zacu
  rw [hs]
  by_cases hab:a=b
  · have:(a==b)=true:=by simpa using hab
    rw [this]
    refine ⟨some i,rfl,0,rfl,by simp,by unfold hasI; rw [if_pos hab],?_⟩
    intro w hw
    cases hw
    rw [zajs,if_pos hab]
  · have:(a==b)=false:=by simpa using hab
    rw [this]
    obtain ⟨r,e1,e2⟩:=zafw (a:=a) (ks:=ks) (vs:=vs) (i:=i+1) (by simpa using h) h1.2
    refine ⟨r,e1,?_⟩
    have hl:zajs a (.int k b::ks) (v::vs)=zajs a ks vs:=by rw [zajs,if_neg hab]
    have hh:hasI a (.int k b::ks)=hasI a ks:=by rw [hasI,if_neg hab]
    cases r with
    | none=>exact ⟨by rw [hh]; exact e2.1,by rw [hl]; exact e2.2⟩
    | some j =>
      obtain ⟨m,rfl,g2,g3,g4⟩:=e2
      refine ⟨m+1,by omega,by simpa using g2,by rw [hh]; exact g3,?_⟩
      intro w hw; rw [hl]; exact g4 w hw
theorem zakd {P:Program}{B:Tb}{t:TypeId}{T:TI}(hT:ti B t=some T){look:Nat->Option Ent}{x key y:AV}{c ok:Bool}(h:zain P B t look x key c=some (y,ok))(hok:ok=true):zafr P B T look x key c=some y:=by
 unfold zain at h
 rw [hT] at h
 simp only at h
 split at h
 · rename_i kt et hd
   split at h
   · rename_i kk a
     split at h
     · rename_i ks vs K U hmv hK hU
       split at h
       · rename_i k' kv hKd hz
         have main:(decide (kk=k')&&(Nat.beq ks.length vs.length&&(ks.all (zadA kk)&&(vs.all (isIntL kv)&&(zahf P (Instr.checkKey ks.isEmpty 10000 kt (.int kk a))).isSome))))=true ->
             zafr P B T look x (.lit (.int kk a)) c=some (match c with | false => .lit (.int kv (zajs a ks vs)) | true => .tup [.lit (.int kv (zajs a ks vs)), .lit (.bool (hasI a ks))]):=by
           intro hok
           simp only [Bool.and_eq_true,decide_eq_true_eq] at hok
           obtain ⟨rfl,h1,h2,h3,h4⟩:=hok
           obtain ⟨u,hu⟩:=Option.isSome_iff_exists.1 h4
           obtain ⟨r,e1,e2⟩:=zafw (a:=a) (vs:=vs) (i:=0) (Nat.eq_of_beq_eq_true h1) h2
           unfold zafr
           simp only [hd,AV.val?,hmv,hK,hU,hu,zaqS,hKd,e1]
           cases r with
           | none=>simp only [hz]; cases c <;> simp only [e2.1,e2.2]
           | some j =>
             obtain ⟨m,rfl,g2,g3,g4⟩:=e2
             have hm:=List.all_eq_true.1 h3 _ (List.getElem_mem g2)
             have g5:=g4 _ (List.getElem?_eq_getElem g2)
             have g6:vs[0+m]?=some (.lit (.int kv (zajs a ks vs))):=by
               rw [Nat.zero_add,List.getElem?_eq_getElem g2]
               revert hm g5
               generalize vs[m]=z
               intro hm g5
               unfold isIntL at hm
               split at hm
               · have:=of_decide_eq_true hm; subst this
                 rw [g5]; rfl
               · cases hm
             simp only [g6,g3]
             cases c <;> rfl
         split at h
         · cases h; exact main hok
         · cases h; exact main hok
       · cases h
     · cases h
   · cases h
 · cases h
def intA:AV->Int
 | .lit v=>match v with
  | .int _ n=>n
  | _=>0
 | _=>0
def strA:AV->ByteArray
 | .lit v=>match v with
  | .string s=>s
  | _=>ByteArray.empty
 | _=>ByteArray.empty
def zaAP:AV->Bool
 | .lit v=>match v with
  | .bool b=>b
  | _=>false
 | _=>false
def zaxz:AV->Array Value
 | .lit v=>match v with
  | .agg cs=>cs
  | _ => #[]
 | _ => #[]
def nthA (i:Nat):AV->AV
 | .agg xs=>xs.getD i (.lit undef)
 | _ => .lit undef
def elsA:AV->List AV
 | .lst _ _ xs=>xs
 | _=>[]
def refA:AV->AV
 | .ref x=>x
 | _ => .lit undef
def shF (g:TypeId->AV->AV):List Field->Nat->AV->List AV
 | [],_,_=>[]
 | fd::r,i,y=>g fd.type (nthA i y)::shF g r (i+1) y
def isF (g:TypeId->AV->Bool):List Field->Nat->AV->Bool
 | [],_,_=>true
 | fd::r,i,y=>g fd.type (nthA i y)&&isF g r (i+1) y
def shp (B:Tb):Nat->TypeId->AV->AV
 | 0,_,y=>y
 | m+1,t,y=>match ti B t with
  | some T=>match T.desc with
   | .int k => .lit (.int k (intA y))
   | .string => .lit (.string (strA y))
   | .bool => .lit (.bool (zaAP y))
   | .struct fs => .agg (shF (shp B m) fs.toList 0 y)
   | .slice e=>match ti B e with
    | some U => .lst false U.size (elsA y)
    | none=>y
   | .pointer _ => .ref (refA y)
   | .array _ _ => .lit (.agg (zaxz y))
   | _=>y
  | none=>y
def zaak (B:Tb):Nat->TypeId->AV->Bool
 | 0,_,_=>true
 | m+1,t,y=>match ti B t with
  | some T=>match T.desc with
   | .int k=>match y with
    | .lit v=>match v with
     | .int k' _=>decide (k'=k)
     | _=>false
    | _=>false
   | .string=>match y with
    | .lit v=>match v with
     | .string _=>true
     | _=>false
    | _=>false
   | .bool=>match y with
    | .lit v=>match v with
     | .bool _=>true
     | _=>false
    | _=>false
   | .struct fs=>match y with
    | .agg xs=>Nat.beq xs.length fs.toList.length&&isF (zaak B m) fs.toList 0 y
    | _=>false
   | .slice e=>match ti B e with
    | some U=>match y with
     | .lst ex sz _=>!ex&&Nat.beq sz U.size
     | _=>false
    | none=>true
   | .pointer _=>match y with
    | .ref _=>true
    | _=>false
   | .array _ _=>match y with
    | .lit v=>match v with
     | .agg _=>true
     | _=>false
    | _=>false
   | _=>true
  | none=>true
theorem zarw {g:TypeId->AV->AV}{h:TypeId->AV->Bool}(hgh:∀ t y,h t y=true->g t y=y)(xs:List AV):∀ (fs:List Field) (i:Nat),isF h fs i (.agg xs)=true->xs.length=i+fs.length->shF g fs i (.agg xs)=xs.drop i
 | [],i,_,hl=>by
  rw [shF,List.drop_eq_nil_of_le (by simp at hl; omega)]
 | fd::r,i,hi,hl=>by
  rw [isF,Bool.and_eq_true] at hi
  have hlt:i<xs.length:=by simp at hl; omega
  rw [shF,hgh _ _ hi.1,zarw hgh xs r (i+1) hi.2 (by simp at hl ⊢; omega),List.drop_eq_getElem_cons hlt]
  simp [nthA,List.getD_eq_getElem?_getD,List.getElem?_eq_getElem hlt]
theorem zamp {B:Tb}:∀ (m:Nat) (t:TypeId) (y:AV),zaak B m t y=true->shp B m t y=y
 | 0,_,_,_=>rfl
 | m+1,t,y,h=>by
  unfold zaak at h
  unfold shp
  split at h
  · rename_i T hT
    generalize T.desc=D at h ⊢
    cases D with
    | int k =>
      simp only at h ⊢
      split at h
      · split at h
        · have:=of_decide_eq_true h; subst this; rfl
        · cases h
      · cases h
    | string =>
      simp only at h ⊢
      split at h
      · split at h
        · rfl
        · cases h
      · cases h
    | bool =>
      simp only at h ⊢
      split at h
      · split at h
        · rfl
        · cases h
      · cases h
    | struct fs =>
      simp only at h ⊢
      split at h
      · rename_i xs
        rw [Bool.and_eq_true] at h
        have hl:=Nat.eq_of_beq_eq_true h.1
        rw [zarw (fun t y=>zamp m t y) xs _ 0 h.2 (by omega),List.drop_zero]
      · cases h
    | slice e =>
      simp only at h ⊢
      split at h
      · rename_i U hU
        split at h
        · rename_i ex sz xs
          rw [Bool.and_eq_true,Bool.not_eq_true'] at h
          rw [h.1,Nat.eq_of_beq_eq_true h.2]; rfl
        · cases h
      · simp only
    | pointer e =>
      simp only at h ⊢
      split at h
      · rfl
      · cases h
    | array n e =>
      simp only at h ⊢
      split at h
      · split at h
        · rfl
        · cases h
      · cases h
    | _=>rfl
  · rfl
def shN:Nat:=8
def zaio (B:Tb)(t:TypeId)(look:Nat->Option Ent)(y:AV):Option (AV × Bool) :=
 match ti B t with
 | some T=>match y with
  | .ptr l i k s=>match look l with
   | some e=>match e.obj with
    | .row _ _ xs=>match (shp B shN t (xs.getD k (.lit undef))).getAt s T.size T.agg with
     | some z=>some (z,decide (e.id=i)&&(Nat.ble (k+1) xs.length&&zaak B shN t (xs.getD k (.lit undef))))
     | none=>none
    | _=>none
   | none=>none
  | _=>none
 | none=>none
theorem zake {B:Tb}{t:TypeId}{T:TI}(hT:ti B t=some T){look:Nat->Option Ent}{y x:AV}{ok:Bool}(h:zaio B t look y=some (x,ok))(hok:ok=true):zapH T look y=some x:=by
 unfold zaio at h
 rw [hT] at h
 simp only at h
 split at h
 · split at h
   · rename_i e he
     split at h
     · rename_i hobj
       split at h
       · rename_i z hz; cases h
         simp only [Bool.and_eq_true,decide_eq_true_eq] at hok
         obtain ⟨h1,h2,h3⟩:=hok
         have h2:=Nat.le_of_ble_eq_true h2
         rename_i xs _ _
         have hget:xs[_]?=some _:=List.getElem?_eq_getElem h2
         rw [zamp _ _ _ h3,List.getD_eq_getElem?_getD,hget,Option.getD_some] at hz
         unfold zapH zasD
         simp only [he,hobj,hget,hz]
         rw [if_pos h1]
       · cases h
     · cases h
   · cases h
 · cases h
def zafG (B:Tb)(t:TypeId)(look:Nat->Option Ent)(y x:AV):Option (Upd × Bool) :=
 match ti B t with
 | some T=>match x with
  | .ptr l i k s=>match look l with
   | some e=>match e.obj with
    | .row pu sz xs=>match (shp B shN t (xs.getD k (.lit undef))).setAt s T.size T.agg y with
     | some z=>some ([(l,⟨i, .row (pu&&zabA y) sz (xs.set k z)⟩)],decide (e.id=i)&&(Nat.ble (k+1) xs.length&&(zaak B shN t (xs.getD k (.lit undef))&&(y.storable&&(Nat.beq y.fsz T.size&&(T.agg||y.leaf))))))
     | none=>none
    | _=>none
   | none=>none
  | _=>none
 | none=>none
theorem zajg {B:Tb}{t:TypeId}{T:TI}(hT:ti B t=some T){look:Nat->Option Ent}{x y:AV}{u:Upd}{ok:Bool}(h:zafG B t look y x=some (u,ok))(hok:ok=true):zakj T look y x=some u:=by
 unfold zafG at h
 rw [hT] at h
 simp only at h
 split at h
 · rename_i l i k s
   split at h
   · rename_i e he
     split at h
     · rename_i pu rz xs hobj
       split at h
       · rename_i z hz; cases h
         simp only [Bool.and_eq_true,decide_eq_true_eq,Bool.or_eq_true] at hok
         obtain ⟨h1,h2,h3,h4,h5,h6⟩:=hok
         have h2:=Nat.le_of_ble_eq_true h2
         have h5:=Nat.eq_of_beq_eq_true h5
         have hget:xs[k]?=some (xs[k]'h2):=List.getElem?_eq_getElem h2
         rw [zamp _ _ _ h3,List.getD_eq_getElem?_getD,hget,Option.getD_some] at hz
         unfold zakj zaml
         simp only [he,hobj,hget,hz]
         rw [if_pos ⟨h1,h4,h5,h6⟩]
       · cases h
     · cases h
   · cases h
 · cases h
def zaip (B:Tb)(t:TypeId)(look:Nat->Option Ent)(x:AV)(n:Int):Option (AV × Bool) :=
 match ti B t with
 | some T=>match T.desc with
  | .slice e=>match ti B e with
   | some U=>match x with
    | .slc l i off len=>match look l with
     | some en=>match en.obj with
      | .row _ sz _=>some (.ptr l i (off+n.toNat) 0,decide (0<=n/\n<len)&&(decide (en.id=i)&&Nat.beq sz U.size))
      | _=>none
     | none=>none
    | .lst _ sz xs=>some (.ref (shp B shN e (xs.getD n.toNat (.lit undef))),decide (0<=n/\n<xs.length)&&(Nat.beq sz U.size&&(zaak B shN e (xs.getD n.toNat (.lit undef))&&(U.agg||(shp B shN e (xs.getD n.toNat (.lit undef))).leaf))))
    | _=>none
   | none=>none
  | _=>none
 | none=>none
theorem zakf {B:Tb}{t:TypeId}{T:TI}(hT:ti B t=some T){look:Nat->Option Ent}{x y:AV}{n:Int}{ok:Bool}(h:zaip B t look x n=some (y,ok))(hok:ok=true):zadC B T look x n=some y:=by
 have hA:∀ e,T.desc = .slice e->zadC B T look x n=zact B T look x n:=fun e hd=>by
  unfold zadC zage
  simp only [hd]
 unfold zaip at h
 rw [hT] at h
 simp only at h
 split at h
 · rename_i e hd
   rw [hA e hd]
   unfold zact
   simp only [hd]
   split at h
   · rename_i U hU
     simp only [hU]
     split at h
     · split at h
       · rename_i en hen
         split at h
         · rename_i hobj; cases h
           simp only [Bool.and_eq_true,decide_eq_true_eq] at hok
           simp only [hen,hobj]
           rw [if_pos hok.1,if_pos hok.2.1,if_pos (Nat.eq_of_beq_eq_true hok.2.2)]
         · cases h
       · cases h
     · rename_i sz xs; cases h
       simp only [Bool.and_eq_true,decide_eq_true_eq,Bool.or_eq_true] at hok
       obtain ⟨h1,h2,h3,h4⟩:=hok
       have hlt:n.toNat<xs.length:=by omega
       simp only
       rw [if_pos ⟨h1.1,Nat.eq_of_beq_eq_true h2⟩,List.getElem?_eq_getElem hlt]
       simp only
       have e1:xs.getD n.toNat (.lit undef)=xs[n.toNat]:=by rw [List.getD_eq_getElem?_getD,List.getElem?_eq_getElem hlt]; rfl
       rw [e1] at h3 h4 ⊢
       rw [zamp _ _ _ h3] at h4 ⊢
       rw [if_pos h4]
     · cases h
   · cases h
 · cases h
def symR (C:Cx)(fr:Fr)(look:Nat->Option Ent)(o:Oper):Option Res:=match o.op with
 | .load t x=>match ev C fr x with
  | some y=>match zaio C.B t look y with
   | some (x,ok)=>some ⟨x,[],ok⟩
   | none=>none
  | none=>none
 | .indexAddr t x i=>match ev C fr x,ev C fr i with
  | some u,some (.lit (.int _ n))=>match zaip C.B t look u n with
   | some (y,ok)=>some ⟨y,[],ok⟩
   | none=>none
  | _,_=>none
 | .store t x y=>match ev C fr x,ev C fr y with
  | some u,some v=>match zafG C.B t look v u with
   | some (upd,ok)=>some ⟨.lit undef,upd,ok⟩
   | none=>none
  | _,_=>none
 | .binOp op t x y _=>match ev C fr x,ev C fr y with
  | some u,some v=>match valN 3 u,valN 3 v with
   | some (.agg xs),some (.agg ys)=>match arrK C.B t with
    | some (n,k)=>match op with
     | .eql=>some ⟨.lit (.bool (decide (zae7 xs=zae7 ys))),[],zam8 k n xs&&zam8 k n ys⟩
     | .neq=>some ⟨.lit (.bool (!decide (zae7 xs=zae7 ys))),[],zam8 k n xs&&zam8 k n ys⟩
     | _=>none
    | none=>none
   | _,_=>none
  | _,_=>none
 | .index t x i=>match ev C fr x,ev C fr i with
  | some u,some (.lit (.int _ n))=>match zamh C.B t u n with
   | some (y,ok)=>some ⟨y,[],ok⟩
   | none=>none
  | _,_=>none
 | .slice t x lo hi mx=>match ev C fr x,evo C fr lo,evo C fr hi,evo C fr mx with
  | some u,some l,some h,some m=>match zamj C.B t look u l h m with
   | some (y,ok)=>some ⟨y,[],ok⟩
   | none=>none
  | _,_,_,_=>none
 | .lookup t x i c=>match ev C fr x,ev C fr i with
  | some u,some k=>match zain C.P C.B t look u k c with
   | some (y,ok)=>some ⟨y,[],ok⟩
   | none=>none
  | _,_=>none
 | _=>none
theorem zans {C:Cx}{fr:Fr}{look:Nat->Option Ent}{o:Oper}{q:Res}(h:symR C fr look o=some q)(hok:q.ok=true)(p:Id):opE C fr look p o=some ⟨q.x,q.upd,true⟩:=by
 unfold symR at h
 split at h
 · rename_i t x hop
   split at h
   · rename_i y hy
     split at h
     · rename_i z ok hs; cases h
       have hT:∃ T,ti C.B t=some T:=by
         unfold zaio at hs
         split at hs
         · rename_i T hT; exact ⟨T,hT⟩
         · cases hs
       obtain ⟨T,hT⟩:=hT
       unfold opE; simp only [hop]
       unfold zapy; simp only [hT,hy,zake hT hs hok,okd]
     · cases h
   · cases h
 · rename_i t x i hop
   split at h
   · rename_i u n hu hn
     split at h
     · rename_i y ok hs; cases h
       have hT:∃ T,ti C.B t=some T:=by
         unfold zaip at hs
         split at hs
         · rename_i T hT; exact ⟨T,hT⟩
         · cases hs
       obtain ⟨T,hT⟩:=hT
       unfold opE; simp only [hop]
       unfold zadv; simp only [hT,hu,hn,zakf hT hs hok,okd]
     · cases h
   · cases h
 · rename_i t x y hop
   split at h
   · rename_i u v hu hv
     split at h
     · rename_i upd ok hs; cases h
       have hT:∃ T,ti C.B t=some T:=by
         unfold zafG at hs
         split at hs
         · rename_i T hT; exact ⟨T,hT⟩
         · cases hs
       obtain ⟨T,hT⟩:=hT
       unfold opE; simp only [hop]
       unfold zakG; simp only [hT,hu,hv,zajg hT hs hok]
     · cases h
   · cases h
 · rename_i op t x y z hop
   split at h
   · rename_i u v hx hy
     split at h
     · rename_i xs ys hu hv
       split at h
       · rename_i n k hk
         have hfl:op = .eql∨op = .neq->zam8 k n xs=true->zam8 k n ys=true->cmpP C.P C.B op t x y u v=some (.lit (.bool (match op with | .eql=>decide (zae7 xs=zae7 ys) | _=>!decide (zae7 xs=zae7 ys)))):=fun ho h1 h2=>by
           unfold cmpP cmpE
           rcases ho with rfl | rfl <;> simp only [hu,hv,binQ,zaly hk h1 h2]
         have ha:op = .eql∨op = .neq->∀ a b,u = .lit a->v = .lit b->okg (zalS op a b) (cmpP C.P C.B op t x y (.lit a) (.lit b))=okd (cmpP C.P C.B op t x y (.lit a) (.lit b)):=fun ho a b ea eb=>by
           subst ea; subst eb
           have e1:a = .agg xs:=by simpa [valN,AV.val?] using hu
           have e2:b = .agg ys:=by simpa [valN,AV.val?] using hv
           subst e1; subst e2
           rcases ho with rfl | rfl <;> simp only [zalS,okg]
         have go:op = .eql∨op = .neq->zaiE C fr look p o op t x y=okd (cmpP C.P C.B op t x y u v):=fun ho=>by
           unfold zaiE
           simp only [hx,hy]
           split
           · exact ha ho _ _ rfl rfl
           · rfl
         split at h
         · cases h
           simp only [Bool.and_eq_true] at hok
           unfold opE; simp only [hop,go (.inl rfl),hfl (.inl rfl) hok.1 hok.2,okd]
         · cases h
           simp only [Bool.and_eq_true] at hok
           unfold opE; simp only [hop,go (.inr rfl),hfl (.inr rfl) hok.1 hok.2,okd]
         · cases h
       · cases h
     · cases h
   · cases h
 · rename_i t x i hop
   split at h
   · rename_i u n hu hn
     split at h
     · rename_i y ok hs; cases h
       have hT:∃ T,ti C.B t=some T:=by
         unfold zamh at hs
         split at hs
         · rename_i T hT; exact ⟨T,hT⟩
         · cases hs
       obtain ⟨T,hT⟩:=hT
       unfold opE; simp only [hop]
       unfold zakJ; simp only [hT,hu,hn,zamg hT hs hok,okd]
     · cases h
   · cases h
 · rename_i t x lo hi mx hop
   split at h
   · rename_i u l hh m hu hl hhi hm
     split at h
     · rename_i y ok hs; cases h
       have hT:∃ T,ti C.B t=some T:=by
         unfold zamj at hs
         split at hs
         · rename_i T hT; exact ⟨T,hT⟩
         · cases hs
       obtain ⟨T,hT⟩:=hT
       unfold opE; simp only [hop]
       unfold zakH; simp only [hT,hu,hl,hhi,hm,zamo,zami hT hs hok,okd]
     · cases h
   · cases h
 · rename_i t x i c hop
   split at h
   · rename_i u k hu hk
     split at h
     · rename_i y ok hs; cases h
       have hT:∃ T,ti C.B t=some T:=by
         unfold zain at hs
         split at hs
         · rename_i T hT; exact ⟨T,hT⟩
         · cases hs
       obtain ⟨T,hT⟩:=hT
       unfold opE; simp only [hop]
       unfold zahx; simp only [hT,hu,hk,zakd hT hs hok,okd]
     · cases h
   · cases h
 · cases h
def zajF (look:Nat->Option Ent)(sz:Nat):AV->Option (Bool × List AV × Bool)
 | .lst _ sz' xs=>some (true,xs,Nat.beq sz' sz)
 | .slc l i off len=>match look l with
  | some e=>match e.obj with
   | .row pu sz' xs=>some (pu,(xs.drop off).take len,decide (e.id=i)&&(Nat.beq sz' sz&&Nat.ble (off+len) xs.length))
   | _=>none
  | none=>none
 | _=>none
theorem zai4 {look:Nat->Option Ent}{sz:Nat}{x:AV}{pu:Bool}{xs:List AV}{ok:Bool}(h:zajF look sz x=some (pu,xs,ok))(hok:ok=true):zafb look sz x=some (pu,xs):=by
 unfold zajF at h
 split at h
 · cases h
   unfold zafb
   simp only [Nat.eq_of_beq_eq_true hok,if_true]
 · split at h
   · rename_i e he
     split at h
     · rename_i hobj; cases h
       simp only [Bool.and_eq_true,decide_eq_true_eq] at hok
       unfold zafb
       simp only [he,hobj]
       rw [if_pos hok.1,if_pos ⟨Nat.eq_of_beq_eq_true hok.2.1,Nat.le_of_ble_eq_true hok.2.2⟩]
     · cases h
   · cases h
 · cases h
def zafH (B:Tb)(T T2:TI)(look:Nat->Option Ent)(dst src:AV)(p:Id):Option Res :=
 match T.desc with
 | .slice e=>match T2.desc with
  | .slice _=>match ti B e with
   | some U=>match U.zero with
    | some z=>match Nat.beq z.cells.size U.size with
     | true=>match dst with
      | .slc l i off len=>match zajF look U.size (.slc l i off len),zajF look U.size src with
       | some (px,xs,k1),some (py,ys,k2)=>some ⟨.slc l p 0 (xs++ys).length,[(l,⟨p, .row (px&&py) U.size (xs++ys)⟩)],k1&&(k2&&decide ((xs++ys).length*U.bytes<=140737488355328/\(xs++ys).length<=1152921504606846976))⟩
       | _,_=>none
      | _=>none
     | false=>none
    | none=>none
   | none=>none
  | _=>none
 | _=>none
theorem zafM {look:Nat->Option Ent}{U:TI}{x:AV}{r:Bool × List AV × Bool}(h:zajF look U.size x=some r):zafN look U x=zafb look U.size x:=by
 unfold zajF at h
 split at h <;> first | rfl | (cases h; done)
theorem zahm {B:Tb}{T T2:TI}{look:Nat->Option Ent}{dst src:AV}{d:Nat}{p:Id}{q:Res}(h:zafH B T T2 look dst src p=some q)(hok:q.ok=true):zahd B T T2 look dst src d p=some ⟨q.x,q.upd,true⟩:=by
 unfold zafH at h
 split at h
 · rename_i e hd
   split at h
   · rename_i e2 hd2
     split at h
     · rename_i U hU
       split at h
       · rename_i z hz
         split at h
         · rename_i hzs
           split at h
           · split at h
             · rename_i px xs k1 py ys k2 h1 h2; cases h
               simp only [Bool.and_eq_true] at hok
               unfold zahd
               simp only [hd,hd2,hU,hz,zafM h2,zai4 h2 hok.2.1,Nat.eq_of_beq_eq_true hzs,if_true,zamG,zai4 h1 hok.1,hok.2.2]
             · cases h
           · cases h
         · cases h
       · cases h
     · cases h
   · cases h
 · cases h
def symA (C:Cx)(fr:Fr)(look:Nat->Option Ent)(p:Id)(o:Oper):Option Res:=match o.op with
 | .call k=>match k.callee with
  | .builtin b=>match b with
   | .append=>match evs C fr k.args.toList,k.argTypes.toList with
    | some [x,y],[t,t2]=>match ti C.B t,ti C.B t2 with
     | some T,some T2=>zafH C.B T T2 look x y p
     | _,_=>none
    | _,_=>none
   | _=>none
  | _=>none
 | _=>none
theorem zant {C:Cx}{fr:Fr}{look:Nat->Option Ent}{p:Id}{o:Oper}{q:Res}(h:symA C fr look p o=some q)(hok:q.ok=true):opE C fr look p o=some ⟨q.x,q.upd,true⟩:=by
 unfold symA at h
 split at h
 · rename_i k hop
   split at h
   · split at h
     · rename_i hcal
       split at h
       · rename_i x y t t2 hev hts
         split at h
         · rename_i T T2 hT hT2
           unfold opE; simp only [hop]
           unfold zapz; simp only [hcal,hev]
           unfold zagj; simp only [hts,hT,hT2,zahm h hok]
         · cases h
       · cases h
     · cases h
   · cases h
 · cases h
def zawq (C:Cx)(fr:Fr)(look:Nat->Option Ent)(p:Id)(o:Oper):Option Res:=match symR C fr look o with
 | some q=>some q
 | none=>symA C fr look p o
theorem zaoE {C:Cx}{fr:Fr}{look:Nat->Option Ent}{p:Id}{o:Oper}{q:Res}(h:zawq C fr look p o=some q)(hok:q.ok=true):opE C fr look p o=some ⟨q.x,q.upd,true⟩:=by
 unfold zawq at h
 split at h
 · rename_i z hz; cases h; exact zans hz hok p
 · exact zant h hok
def zaxN (o:Oper):Nat:=match o.op with
 | .load .. => o.dst.getD 0+1000000
 | .indexAddr .. => o.dst.getD 0+1000000
 | .store _ x _=>match x with
  | .tmp d=>d+3000000
  | _=>0
 | _=>o.dst.getD 0
inductive Fail (pos:String) (dst:Nat):Prop
def opS (sy:Bool)(C:Cx)(fr:Fr)(look:Nat->Option Ent)(p:Id)(o:Oper)(K:Bool->Res->Prop):Prop :=
 match (match sy with | true=>zawq C fr look p o | false=>none) with
 | some q=>K true q
 | none=>match opE C fr look p o with
  | some q=>K false q
  | none=>Fail o.pos (o.dst.getD 0)
theorem zamz {sy:Bool}{C:Cx}{fr:Fr}{look:Nat->Option Ent}{p:Id}{o:Oper}{K:Bool->Res->Prop}(h:opS sy C fr look p o K) :
  ∃ b q,K b q/\(q.ok=true->∃ q',opE C fr look p o=some q'/\q'.ok=true/\q'.x=q.x/\q'.upd=q.upd):=by
 unfold opS at h
 split at h
 · rename_i q hq
   refine ⟨true,q,h,fun hok=>⟨_,zaoE (by cases sy <;> simp_all) hok,rfl,rfl,rfl⟩⟩
 · split at h
   · rename_i q hq; exact ⟨false,q,h,fun hok=>⟨q,hq,hok,rfl,rfl⟩⟩
   · cases h
end
end Go.AS
