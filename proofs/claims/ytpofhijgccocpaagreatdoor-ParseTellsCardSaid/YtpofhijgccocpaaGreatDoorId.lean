/- Parts of the proof of ParseTells. -/
import Derived.Test.YtpofhijgccocpaaGreatDoorIb
import Derived.Test.YtpofhijgccocpaaGreatDoorIc
import Derived.Test.YtpofhijgccocpaaGreatDoorIa
set_option maxRecDepth 100000
section
namespace Go.TP
open Go.AS
mutual
def cntS:Nd->Nat
 | .mk _ _ _ _ ks=>cntL ks+1
def cntL:List Nd->Nat
 | []=>0
 | n::r=>cntS n+cntL r
end
theorem zamY {k a n:Int}{t:ByteArray}:cntS (.mk k a n t [])=1:=rfl
theorem zajS {k a n:Int}{t:ByteArray}{x:Nd}:cntS (.mk k a n t [x])=cntS x+1:=rfl
theorem zamX {k a n:Int}{t:ByteArray}{x y:Nd}:cntS (.mk k a n t [x,y])=cntS x+cntS y+1:=rfl
def Cn (ts:List Tk)(r:R):Prop:=cntS r.n+2*r.ts.length<=2*ts.length+1
theorem zacV {ts:List Tk}(h:okT ts)(hk:(zaab ts).kind≠11):(zaal ts).length+1=ts.length:=by
 cases ts with
 | nil=>exact h.elim
 | cons t r=>have hk:t.kind≠11:=hk;rw [zaaW hk];rfl
theorem zaiS {part:List Tk->R}(hp:∀ ts,okT ts->Inv ts (part ts))(hq:∀ ts,okT ts->Cn ts (part ts))(km:Int->Int)(h11:km 11=0):∀ (n:Nat) (r:R) (ts:List Tk),okT r.ts->Cn ts r->Cn ts (zaaL part km n r)
 | 0,r,ts,_,h=>by rw [zaaL];exact h
 | n+1,r,ts,h,hn=>by
  rw [zaaL]
  split
  · rename_i hc
    have h1:=zaaq h
    have h2:=hq _ h1.1
    have h3:=zacV h (fun e=>hc.2 (by rw [e,h11]))
    refine zaiS hp hq km h11 n ⟨.mk (km (zaab r.ts).kind) (zaab r.ts).at_ 0 ByteArray.empty [r.n,(part (zaal r.ts)).n],(part (zaal r.ts)).e,(part (zaal r.ts)).ts⟩ ts (hp _ h1.1).1 ?_
    unfold Cn at hn h2 ⊢
    rw [zamX]
    show cntS r.n+cntS (part (zaal r.ts)).n+1+2*(part (zaal r.ts)).ts.length<=_
    omega
  · exact hn
theorem zadn {d:Int}{t:Tk}{n0:Nd}{ts us:List Tk}{f:Int->List Tk->R}(h:cntS n0+2*us.length<=2*ts.length+1)(hf:Cn ts (f (d+1) us)):Cn ts (zaaT d t n0 us f):=by
 unfold zaaT
 split
 · exact h
 · exact hf
theorem Cn.of {ts us:List Tk}{r:R}(h:Cn us r)(hl:us.length<=ts.length):Cn ts r:=by unfold Cn at *;omega
theorem cnq {ts us:List Tk}{n:Nd}{e:Option (Int × Int)}(h:cntS n+2*us.length<=2*ts.length+1):Cn ts ⟨n,e,us⟩:=h
theorem cnz {ts us:List Tk}{k a n:Int}{t:ByteArray}{e:Option (Int × Int)}(h:us.length<=ts.length):Cn ts ⟨.mk k a n t [],e,us⟩:=cnq (by rw [zamY];omega)
theorem cnZ {ts us:List Tk}{e:Option (Int × Int)}(h:us.length<=ts.length):Cn ts ⟨.zero,e,us⟩:=cnz h
theorem cn1 {ts us:List Tk}{k a n:Int}{t:ByteArray}{x:Nd}{e:Option (Int × Int)}(h:cntS x+1+2*us.length<=2*ts.length+1):Cn ts ⟨.mk k a n t [x],e,us⟩:=by
 unfold Cn;rw [zajS];exact h
theorem zakL:∀ (f:Nat) (lv:Lv) (d:Int) (ts:List Tk),okT ts->Cn ts (PF f lv d ts)
 | 0,_,_,ts,h=>by rw [PF];show 1+2*ts.length<=_;omega
 | f+1,.expr,d,ts,h=>by
  rw [PF]
  exact zaiS (fun us hu=>zaaS f .term d us hu) (fun us hu=>zakL f .term d us hu) kmE rfl f _ ts (zaaS f .term d ts h).1 (zakL f .term d ts h)
 | f+1,.term,d,ts,h=>by
  rw [PF]
  exact zaiS (fun us hu=>zaaS f .part d us hu) (fun us hu=>zakL f .part d us hu) kmT rfl f _ ts (zaaS f .part d ts h).1 (zakL f .part d ts h)
 | f+1,.part,d,ts,h=>by
  rw [PF]
  simp only
  split
  · exact zakL f .ranged d ts h
  · rename_i hk
    have h1:=zaaq h
    have h0:=zacV h (fun e=>hk (by rw [e];decide))
    refine zadn (by rw [zamY];omega) (cn1 ?_)
    have:=zakL f .part (d+1) _ h1.1
    unfold Cn at this;omega
 | f+1,.ranged,d,ts,h=>by
  rw [PF]
  simp only
  have h1:=zaaq h
  split
  · rename_i hk
    have h0:=zacV h (by rw [hk];decide)
    refine zadn (by rw [zamY];omega) (cn1 ?_)
    have:=zakL f .atom (d+1) _ h1.1
    unfold Cn at this;omega
  · have h2:=zakL f .atom d ts h
    have i2:=zaaS f .atom d ts h
    have second:∀ (d:Int) (us:List Tk) (k a:Int) (n:Nd) (m:Bool),okT us->cntS n+1+2*us.length<=2*ts.length->Cn ts (zabL (PF f .atom d) k a n m us):=fun d us k a n m hu hn=>by
      unfold zabL
      split
      · exact cn1 (by omega)
      · have:=zakL f .atom d us hu
        unfold Cn at this ⊢
        rw [zamX]
        show cntS n+cntS (PF f .atom d us).n+1+2*(PF f .atom d us).ts.length<=_
        omega
    have h3:=zaaq i2.1
    split
    · exact h2
    · split
      · rename_i hk
        have h4:=zacV i2.1 (by rw [hk];decide)
        unfold Cn at h2
        exact zadn (by rw [zajS];omega) (second _ _ _ _ _ _ h3.1 (by omega))
      · split
        · rename_i hk
          have h4:=zacV i2.1 (by rw [hk];decide)
          unfold Cn at h2
          exact second _ _ _ _ _ _ h3.1 (by omega)
        · exact h2
 | f+1,.atom,d,ts,h=>by
  rw [PF]
  simp only
  have h1:=zaaq h
  have h3:=zaaq h1.1
  split
  · refine zadn (show 1+2*_<=2*_+1 by omega) ?_
    have h2:=zakL f .expr (d+1) _ h1.1
    have i2:=zaaS f .expr (d+1) _ h1.1
    split
    · exact h2.of h1.2
    · have h4:=zabf (k:=3) i2.1
      unfold Cn at h2
      exact cnq (by omega)
  · split
    · rename_i hk
      have h0:=zacV h (by rw [hk];decide)
      split
      · unfold zapg
        simp only
        split
        · exact cnZ h1.2
        · refine zadn (show 1+2*_<=2*_+1 by omega) ?_
          have l3:=Nat.le_trans h3.2 h1.2
          split
          · have h4:=zabf (k:=3) h3.1
            exact cnz (by omega)
          · have h2:=zakL f .expr (d+1) _ h3.1
            have i2:=zaaS f .expr (d+1) _ h3.1
            unfold Cn at h2
            split
            · exact cn1 (by omega)
            · split
              · have h4:=zabf (k:=3) i2.1
                exact cn1 (by omega)
              · have h4:=zabf (k:=4) i2.1
                split
                · exact cn1 (by omega)
                · split
                  · exact cn1 (by omega)
                  · have h5:=zaaq h4.1
                    have h6:=zabf (k:=3) h5.1
                    exact cn1 (by omega)
      · split
        · exact cnz h1.2
        · exact cnZ h1.2
    · exact cnZ (Nat.le_refl _)
end Go.TP
end
section
namespace Go.Proofs.YtpofhijgccocpaaGreatDoor
open Go.AS Go.TP
noncomputable section
theorem zaGR (k a m:Int)(t:ByteArray)(vs:List AV):zaaF (Cx.B (cxV XB 12 zaao)) shN 33 (rgV k a m t vs)=true:=by kernel_rfl
theorem zaGS (b:Int):zaaF (Cx.B (cxV XB 12 zaao)) shN 3 (i0 b)=true:=by kernel_rfl
theorem andG {a b:Bool}(h:a=true)(k:b=true):(a&&b)=true:=by rw [h,k];rfl
abbrev ndG (l:List RN)(p:Nat):AV:=(l.map xE).getD (p:Int).toNat (AV.lit (Value.tuple ⟨[]⟩))
structure NdG (l:List RN) (p:Nat) (n:Nd):Prop where
 e:ndG l p=rgV n.kind n.at_ n.num n.text ((ndR l p).kids.map fun j:Nat=>i0 (j:Int))
 lt:(p:Int)<((l.map xE).length:Int)
theorem NdG.of {l:List RN}{p:Nat}{n:Nd}(h:Rep l p n):NdG l p n:=⟨(zahs h).1,(zahs h).2⟩
section
variable {l:List RN} {p:Nat} {n:Nd} (H:NdG l p n)
include H
theorem NdG.c (B:Tb)(hB:B=Cx.B (cxV XB 12 zaao)):(decide ((0:Int)<=(p:Int)/\(p:Int)<((l.map xE).length:Int))&&(Nat.beq 5 5&&(zaaF B shN 33 (ndG l p)&&(true||false))))=true:=by
 subst hB;rw [H.e,zaGR,decide_eq_true ⟨by omega,H.lt⟩];rfl
theorem NdG.k {c:Int}(h:n.kind=c):(intA (nthA 0 (ndG l p))==c)=true:=by rw [H.e];exact beq_iff_eq.2 h
theorem NdG.nk {c:Int}(h:n.kind≠c):(intA (nthA 0 (ndG l p))==c)=false:=by rw [H.e];exact beq_eq_false_iff_ne.2 h
theorem NdG.el:elsA (nthA 4 (ndG l p))=(ndR l p).kids.map fun j:Nat=>i0 (j:Int):=by rw [H.e];rfl
theorem NdG.lt_ {j c:Nat}(hl:(ndR l p).kids.length=c)(h:j<c):decide ((j:Int)<((elsA (nthA 4 (ndG l p))).length:Int))=true:=by grind [H.el,List.length_map]
theorem NdG.ge_ {j c:Nat}(hl:(ndR l p).kids.length=c)(h:c<=j):decide ((j:Int)<((elsA (nthA 4 (ndG l p))).length:Int))=false:=by grind [H.el,List.length_map]
theorem NdG.at_ {j b:Nat}(hb:(ndR l p).kids[j]?=some b):(elsA (nthA 4 (ndG l p))).getD j (AV.lit (Value.tuple ⟨[]⟩))=i0 (b:Int):=by grind [H.el]
theorem NdG.ck {j b:Nat}(hb:(ndR l p).kids[j]?=some b)(B:Tb)(hB:B=Cx.B (cxV XB 12 zaao)):(decide ((0:Int)<=(j:Int)/\(j:Int)<((elsA (nthA 4 (ndG l p))).length:Int))&&(Nat.beq 1 1&&(zaaF B shN 3 ((elsA (nthA 4 (ndG l p))).getD j (AV.lit (Value.tuple ⟨[]⟩)))&&(false||true))))=true:=by
 subst hB
 have:=(List.getElem?_eq_some_iff.1 hb).1
 rw [H.at_ hb,zaGS,H.el,List.length_map,decide_eq_true ⟨by omega,by omega⟩];rfl
theorem NdG.w {j b:Nat}{t:AV}(hb:(ndR l p).kids[j]?=some b):Wks [t,i0 (intA ((elsA (nthA 4 (ndG l p))).getD j (AV.lit (Value.tuple ⟨[]⟩))))] [t,i0 (b:Int)]:=by rw [H.at_ hb];exact .refl _
end
theorem zaHe {l:List RN}{p:Nat}{k a m:Int}{t:ByteArray}{ks:List Nd}(h:Rep l p (.mk k a m t ks)):(ndR l p).kids.length=ks.length/\∀ (j:Nat) (u:Nd),ks[j]?=some u->∃ b,(ndR l p).kids[j]?=some b/\Rep l b u:=by
 obtain ⟨_,_,_,_,_,hl,_,hk⟩:=h.inv
 have hl:(ndR l p).kids.length=ks.length:=hl
 refine ⟨hl,fun j u hu => ?_⟩
 have hj:=(List.getElem?_eq_some_iff.1 hu).1
 have e:(ndR l p).kids[j]?=some ((ndR l p).kids[j]'(by omega)):=List.getElem?_eq_getElem (by omega)
 exact ⟨_,e,hk j _ _ e hu⟩
theorem tkG (xs:List AV):List.take xs.length (List.drop 0 xs)=xs:=by rw [List.drop_zero,List.take_length]
theorem szG {a b:List AV}(h:a.length+b.length<=1000000):(true&&(Nat.beq 1 1&&Nat.ble (0+a.length) a.length)&&(Nat.beq 1 1&&decide ((List.take a.length (List.drop 0 a)++b).length*8<=140737488355328/\(List.take a.length (List.drop 0 a)++b).length<=1152921504606846976)))=true:=by
 rw [tkG,List.length_append,decide_eq_true ⟨by omega,by omega⟩,Nat.zero_add,Nat.ble_eq_true_of_le (Nat.le_refl _)];rfl
attribute [local irreducible] runF
theorem xnFn {X:WX}(hX:X.Sound)(hp:X.px=X0){os:Orc}{ns r:List AV}{p:Int}(g:gXNm X os ns p r):F zaao [zadO ns,i0 p] (.lst false 1 r):=by
 have hP:X.px.P=Tryz.prog:=by rw [hp];rfl
 have hg:X.px.gl=gl0:=by rw [hp];rfl
 have:=zade (X:=(X.ask [zaao]).askAt zaao [10,12,20,22,32,34,36,37,39]) (d:=12) ((hX.ask _).askAt _ _) (f:=zaao) (fn:=fn zaao) (code:=code zaao) (by show X.px.P.funcs[zaao]?=_;rw [hP];exact fnOk zaao (by kernel_rfl)) (show (fn zaao).body=some (code zaao) by kernel_rfl) (by kernel_rfl) g
 show FOk Tryz.prog gl0 zaao _ _ _
 rw [<-hg,<-hP];exact this
def NmP (l:List RN)(n:Nd)(qs:List Nat):Prop:=qs.length=(zaah n).length/\∀ (i q:Nat) (u:Nd),qs[i]?=some q->(zaah n)[i]?=some u->NdG l q u/\u.kind=1
abbrev XnOk (l:List RN)(n:Nd)(p:Nat):Prop:=∃ qs,NmP l n qs/\F zaao [zadO (l.map xE),i0 (p:Int)] (.lst false 1 (qs.map fun q:Nat=>i0 (q:Int)))
abbrev iq (qs:List Nat):List AV:=qs.map fun q:Nat=>i0 (q:Int)
theorem zamf (qs:List Nat):(iq qs).length=qs.length:=List.length_map ..
theorem zant {l:List RN}(n:Nd):zaas n=true->(zaah n).length<=1000000->∀ p,Rep l p n->XnOk l n p:=by
 refine Nd.rec (motive_1:=fun n=>zaas n=true->(zaah n).length<=1000000->∀ p,Rep l p n->XnOk l n p)
  (motive_2:=fun ks=>∀ x∈ks,zaas x=true->(zaah x).length<=1000000->∀ p,Rep l p x->XnOk l x p) ?_ (fun x hx=>by cases hx) (fun x r h1 h2 y hy => ?_) n
 · intro k a m t ks ih hr hL p hR
   have H:=NdG.of hR
   obtain ⟨hl,hk⟩:=zaHe hR
   by_cases h1:k=1
   · subst h1
     have e:zaah (.mk 1 a m t ks)=[.mk 1 a 0 t []]:=by rw [zaah,if_pos rfl]
     have hm:m=0/\ks=[]:=by
       obtain ⟨h,h2,_⟩:=zadz hr
       have h:(0:Int)=(ks.length:Int):=h
       have h2:(zaav t&&decide (m=0))=true:=h2
       rw [Bool.and_eq_true,decide_eq_true_iff] at h2
       exact ⟨h2.2,List.eq_nil_of_length_eq_zero (by omega)⟩
     obtain ⟨rfl,rfl⟩:=hm
     refine ⟨[p],⟨by rw [e];rfl,fun i q u h1 h2 => ?_⟩,xnFn zaaR rfl (show zaFE (Orc.t Orc.z) (l.map xE) p from ?_)⟩
     · rw [e] at h2
       match i,h1,h2 with
       | 0,h1,h2=>cases h1;cases h2;exact ⟨H,rfl⟩
     · rw [zasV];exact ⟨H.c _ rfl,H.k rfl,.lst,.rfl⟩
   · have e:zaah (.mk k a m t ks)=zab4 ks:=by rw [zaah,if_neg h1]
     have h2:=zajj hr
     have r1:=(zadz hr).2.2
     match ks,h2,ih,r1,hl,hk,e,hL with
     | [],_,_,_,hl,_,e,_ =>
       refine ⟨[],⟨by rw [e];rfl,fun i q u h1=>by cases h1⟩,xnFn zaaR rfl (show zaFH (Orc.f (Orc.f Orc.z)) (l.map xE) p from ?_)⟩
       rw [zasY];exact ⟨H.c _ rfl,H.nk h1,H.c _ rfl,H.ge_ hl (Nat.le_refl 0),.nilS,.rfl⟩
     | [x],_,ih,r1,hl,hk,e,hL =>
       have e2:zab4 [x]=zaah x:=by rw [zab4,zab4,List.append_nil]
       rw [e2] at e
       rw [e] at hL
       obtain ⟨b,hb,hRb⟩:=hk 0 x rfl
       obtain ⟨qs,hq,hF⟩:=ih x (by simp) (r1 x (by simp)) hL b hRb
       have hql:=hq.1
       refine ⟨qs,by unfold NmP;rw [e];exact hq,xnFn (X:=XB.add zaao (Sp.con [spXN (l.map xE) fun q=>q=((b:Int),iq qs)])) (zaaR.add (zabv (s:=spXN (l.map xE) fun q=>q=((b:Int),iq qs)) fun q (hh:q=_)=>by rw [hh];exact hF)) rfl (show zaFG (Orc.f (Orc.t (Orc.f Orc.z))) (l.map xE) p _ (iq qs) from ?_)⟩
       have hi:=zamf qs
       rw [zasX]
       exact ⟨H.c _ rfl,H.nk h1,H.c _ rfl,H.lt_ hl (show 0<1 by decide),H.c _ rfl,H.ck hb _ rfl,((b:Int),iq qs),⟨rfl,H.w hb,rfl⟩,decide_eq_true (by show (iq qs).length*8<=_/\(iq qs).length<=_;omega),rfl,H.c _ rfl,H.ge_ hl (Nat.le_refl 1),Nat.le_of_eq (Nat.zero_add _),.of_eq (by rw [tkG]),.rfl⟩
     | [x,y],_,ih,r1,hl,hk,e,hL =>
       have e2:zab4 [x,y]=zaah x++zaah y:=by rw [zab4,zab4,zab4,List.append_nil]
       rw [e2] at e
       rw [e,List.length_append] at hL
       obtain ⟨b,hb,hRb⟩:=hk 0 x rfl
       obtain ⟨c,hc,hRc⟩:=hk 1 y rfl
       obtain ⟨qs,hq,hF⟩:=ih x (by simp) (r1 x (by simp)) (by omega) b hRb
       obtain ⟨rs,hr',hG⟩:=ih y (by simp) (r1 y (by simp)) (by omega) c hRc
       have hql:=hq.1
       have hrl:=hr'.1
       have hi:=zamf qs
       have hj:=zamf rs
       have hP:zagZ Tryz.prog gl0 zaao (Sp.con [spXN (l.map xE) fun q=>q=((b:Int),iq qs)∨q=((c:Int),iq rs)]):=zabv (s:=spXN (l.map xE) fun q=>q=((b:Int),iq qs)∨q=((c:Int),iq rs)) fun q (hh:q=_∨q=_)=>by
         rcases hh with hh|hh
         · rw [hh];exact hF
         · rw [hh];exact hG
       refine ⟨qs++rs,⟨by rw [e,List.length_append,List.length_append];omega,fun i q u h1 h2 => ?_⟩,?_⟩
       · rw [e] at h2
         by_cases hi:i<qs.length
         · rw [List.getElem?_append_left hi] at h1
           rw [List.getElem?_append_left (by omega)] at h2
           exact hq.2 i q u h1 h2
         · rw [List.getElem?_append_right (by omega)] at h1
           rw [List.getElem?_append_right (by omega),<-hql] at h2
           exact hr'.2 _ q u h1 h2
       · rw [List.map_append]
         refine xnFn (X:=XB.add zaao (Sp.con [spXN (l.map xE) fun q=>q=((b:Int),iq qs)∨q=((c:Int),iq rs)])) (zaaR.add hP) rfl (show zaFF zawZ (l.map xE) p _ (iq qs) (iq rs) from ?_)
         rw [zasW]
         refine ⟨H.c _ rfl,H.nk h1,H.c _ rfl,H.lt_ hl (show 0<2 by decide),H.c _ rfl,H.ck hb _ rfl,((b:Int),iq qs),⟨.inl rfl,H.w hb,rfl⟩,decide_eq_true (by show (iq qs).length*8<=_/\(iq qs).length<=_;omega),rfl,H.c _ rfl,H.lt_ hl (show 1<2 by decide),H.c _ rfl,H.ck hc _ rfl,((c:Int),iq rs),⟨.inr rfl,H.w hc,rfl⟩,szG (by show (iq qs).length+(iq rs).length<=_;omega),rfl,H.c _ rfl,H.ge_ hl (Nat.le_refl 2),Nat.le_of_eq (Nat.zero_add _),.of_eq (by rw [tkG,tkG]),.rfl⟩
     | x::y::z::r,h2,_,_,_,_,_,_=>simp only [List.length_cons] at h2;omega
 · rcases List.mem_cons.1 hy with rfl|hy
   · exact h1
   · exact h2 y hy
end
end Go.Proofs.YtpofhijgccocpaaGreatDoor
end
section
namespace Go.Proofs.YtpofhijgccocpaaGreatDoor
abbrev zacB:Nat:=19
open Go.AS Go.TP
noncomputable section
abbrev xsA (xs:List Int):AV := .lst false 1 (xs.map i0)
def zaph (s:ByteArray)(xs:List Int)(i:Int):List AV:=[s0 s,xsA xs,i0 i]
def zaBK (r:ByteArray):Ex × Back:=(.exit 0,⟨.tup [s0 r],.nil,[]⟩)
abbrev lpBn (P:Prop)(s:ByteArray)(xs:List Int)(i:Int)(r:ByteArray):Lp:=Lp1 [0,1,5] [] (fun _=>[0]) P (zaph s xs i) .nil (zaBK r)
def XBn:WX:=((XB.add zauV (Sp.con [zaln])).ask [zacB]).askAt zacB [25,34,37,47]
def rBn (os:Orc)(P:Prop)(s s1:ByteArray)(xs:List Int)(i:Int)(r:ByteArray):Prop :=
 runL XBn 8 zacB (fn zacB).ntmps (zaaX (code zacB) 0) (lpBn P s1 xs (i+1) r) (lpBn P s1 xs (i+1) r) os 0 [] (zaph s xs i) .nil (zaBK r)
def rBnA (os:Orc)(P:Prop)(s s1:ByteArray)(xs:List Int)(i:Int)(r:ByteArray):Prop:=rBn os P s s1 xs i r
def rBnB (os:Orc)(P:Prop)(s s1:ByteArray)(xs:List Int)(i:Int)(r:ByteArray):Prop:=rBn os P s s1 xs i r
def rBnC (os:Orc)(P:Prop)(s s1:ByteArray)(xs:List Int)(i:Int)(r:ByteArray):Prop:=rBn os P s s1 xs i r
def rBnR (os:Orc)(P:Prop)(s s1:ByteArray)(xs:List Int)(i:Int)(r:ByteArray):Prop:=rBn os P s s1 xs i r
def zaGh (os:Orc)(s:ByteArray)(xs:List Int)(r:ByteArray):Prop :=
 runF ((XB.addLp zacB 0 (lpBn True s xs 0 r)).ask [zacB]) 10 zacB (fn zacB) (code zacB) os 0 [] [s0 s,xsA xs] .nil ⟨s0 r,.nil,[]⟩
end
end Go.Proofs.YtpofhijgccocpaaGreatDoor
end
section
namespace Go.Proofs.YtpofhijgccocpaaGreatDoor
open Go Go.AS Go.TP
def zaEu:Orc:=HF (Orc.f (Orc.f Orc.z))
theorem zawn (P:Prop)(s s1:ByteArray)(xs:List Int)(i:Int)(r:ByteArray):rBnA zaEu P s s1 xs i r=(decide (i<(↑(List.length (List.map i0 xs)):Int))=false/\Nf4 (Nf (Ex.exit 0=Ex.exit 0/\Wk (AV.tup [s0 s]) (AV.tup [s0 r])/\S0))):=by kernel_rfl
def zaEt:Orc:=Orc.t (Orc.t (Orc.f (Orc.f (Orc.f (Orc.f Orc.z)))))
theorem zawm (P:Prop)(s s1:ByteArray)(xs:List Int)(i:Int)(r:ByteArray):rBnB zaEt P s s1 xs i r=(decide (i<(↑(List.length (List.map i0 xs)):Int))=true/\Yt (decide (i<3)=false/\Nf (Nf (Nf (Ex.exit 0=Ex.exit 0/\Wk (AV.tup [s0 s]) (AV.tup [s0 r])/\S0))))):=by kernel_rfl
def zaEs:Orc:=HT (Orc.t (Orc.f Orc.z))
theorem zawk (P:Prop)(s s1:ByteArray)(xs:List Int)(i:Int)(r:ByteArray):rBnC zaEs P s s1 xs i r=(decide (i<(↑(List.length (List.map i0 xs)):Int))=true/\Yt (decide (i<3)=true/\Yt (Yt (decide ((↑(ByteArray.size s):Int)>0)=false/\Ex.exit 0=Ex.exit 0/\Wk (AV.tup [s0 s]) (AV.tup [s0 r])/\S0)))):=by kernel_rfl
def zaEr:Orc:=HT (Orc.t (Orc.t Orc.z))
theorem zawi (P:Prop)(s s1:ByteArray)(xs:List Int)(i:Int)(r:ByteArray):rBnR zaEr P s s1 xs i r=(decide (i<(↑(List.length (List.map i0 xs)):Int))=true/\true=true/\decide (i<3)=true/\true=true/\true=true/\decide ((↑(ByteArray.size s):Int)>0)=true/\(decide ((0:Int)<=i/\i<(↑(List.length (List.map i0 xs)):Int))&&(true&&(zaaF (Cx.B (cxV XBn 8 zacB)) shN 3 (List.getD (List.map i0 xs) (Int.toNat i) uu)&&(false||true))))=true/\(inR IntKind.i64 (Int.tdiv (intA (List.getD (List.map i0 xs) (Int.toNat i) uu)) (13:Int))&&true)=true/\∃ (i1:Int × Int),(((0:Int)<Prod.snd i1/\Prod.snd i1<=1000000)/\Wks [i0 (Int.tdiv (intA (List.getD (List.map i0 xs) (Int.toNat i) uu)) (13:Int)),i0 (↑(ByteArray.size s):Int)] [i0 (Prod.fst i1),i0 (Prod.snd i1)]/\hpL []=hpL [])/\(decide ((0:Int)<=i/\i<(↑(List.length (List.map i0 xs)):Int))&&(true&&(zaaF (Cx.B (cxV XBn 8 zacB)) shN 3 (List.getD (List.map i0 xs) (Int.toNat i) uu)&&(false||true))))=true/\∃ (i2:Int × Int),(((0:Int)<Prod.snd i2/\Prod.snd i2<=1000000)/\Wks [i0 (intA (List.getD (List.map i0 xs) (Int.toNat i) uu)),i0 13] [i0 (Prod.fst i2),i0 (Prod.snd i2)]/\hpL []=hpL [])/\(decide ((0:Int)<=Prod.fst i2 % Prod.snd i2/\Prod.fst i2 % Prod.snd i2<13)&&true)=true/\decide ((0:Int)<=(0:Int)/\(0:Int)<=Option.getD (some (Prod.fst i1 % Prod.snd i1)) (↑(ByteArray.size s):Int)/\Option.getD (some (Prod.fst i1 % Prod.snd i1)) (↑(ByteArray.size s):Int)<=(↑(ByteArray.size s):Int)/\false=false)=true/\decide (ByteArray.size (ByteArray.extract s 0 (Int.toNat (Option.getD (some (Prod.fst i1 % Prod.snd i1)) (↑(ByteArray.size s):Int))))+ByteArray.size (List.getD (zab [Value.string ⟨⟨[(32:UInt8)]⟩⟩,Value.string ⟨⟨[(40:UInt8)]⟩⟩,Value.string ⟨⟨[(41:UInt8)]⟩⟩,Value.string bCC,Value.string bDD,Value.string ⟨⟨[(44:UInt8)]⟩⟩,Value.string ⟨⟨[(45:UInt8)]⟩⟩,Value.string ⟨⟨[(33:UInt8)]⟩⟩,Value.string ⟨⟨[(103:UInt8)]⟩⟩,Value.string ⟨⟨[(65:UInt8)]⟩⟩,Value.string ⟨⟨[(58:UInt8)]⟩⟩,Value.string ⟨⟨[]⟩⟩,Value.string ⟨⟨[(97:UInt8),(110:UInt8),(100:UInt8),(32:UInt8)]⟩⟩]) (Int.toNat (Prod.fst i2 % Prod.snd i2)) ByteArray.empty)<=9223372036854775807)=true/\(decide ((0:Int)<=i/\i<(↑(List.length (List.map i0 xs)):Int))&&(true&&(zaaF (Cx.B (cxV XBn 8 zacB)) shN 3 (List.getD (List.map i0 xs) (Int.toNat i) uu)&&(false||true))))=true/\(inR IntKind.i64 (Int.tdiv (intA (List.getD (List.map i0 xs) (Int.toNat i) uu)) (5:Int))&&true)=true/\∃ (i3:Int × Int),(((0:Int)<Prod.snd i3/\Prod.snd i3<=1000000)/\Wks [i0 (Int.tdiv (intA (List.getD (List.map i0 xs) (Int.toNat i) uu)) (5:Int)),i0 2] [i0 (Prod.fst i3),i0 (Prod.snd i3)]/\hpL []=hpL [])/\inR IntKind.i64 (Prod.fst i1 % Prod.snd i1+Prod.fst i3 % Prod.snd i3)=true/\decide ((0:Int)<=Option.getD (some (Prod.fst i1 % Prod.snd i1+Prod.fst i3 % Prod.snd i3)) (0:Int)/\Option.getD (some (Prod.fst i1 % Prod.snd i1+Prod.fst i3 % Prod.snd i3)) (0:Int)<=Option.getD none (↑(ByteArray.size s):Int)/\Option.getD none (↑(ByteArray.size s):Int)<=(↑(ByteArray.size s):Int)/\false=false)=true/\decide (ByteArray.size (ByteArray.extract s 0 (Int.toNat (Option.getD (some (Prod.fst i1 % Prod.snd i1)) (↑(ByteArray.size s):Int)))++List.getD (zab [Value.string ⟨⟨[(32:UInt8)]⟩⟩,Value.string ⟨⟨[(40:UInt8)]⟩⟩,Value.string ⟨⟨[(41:UInt8)]⟩⟩,Value.string bCC,Value.string bDD,Value.string ⟨⟨[(44:UInt8)]⟩⟩,Value.string ⟨⟨[(45:UInt8)]⟩⟩,Value.string ⟨⟨[(33:UInt8)]⟩⟩,Value.string ⟨⟨[(103:UInt8)]⟩⟩,Value.string ⟨⟨[(65:UInt8)]⟩⟩,Value.string ⟨⟨[(58:UInt8)]⟩⟩,Value.string ⟨⟨[]⟩⟩,Value.string ⟨⟨[(97:UInt8),(110:UInt8),(100:UInt8),(32:UInt8)]⟩⟩]) (Int.toNat (Prod.fst i2 % Prod.snd i2)) ByteArray.empty)+ByteArray.size (ByteArray.extract s (Int.toNat (Option.getD (some (Prod.fst i1 % Prod.snd i1+Prod.fst i3 % Prod.snd i3)) (0:Int))) (Int.toNat (Option.getD none (↑(ByteArray.size s):Int))))<=9223372036854775807)=true/\inR IntKind.i64 (i+1)=true/\∃ (_:Unit),(P/\Wks [s0 (ByteArray.extract s 0 (Int.toNat (Option.getD (some (Prod.fst i1 % Prod.snd i1)) (↑(ByteArray.size s):Int)))++List.getD (zab [Value.string ⟨⟨[(32:UInt8)]⟩⟩,Value.string ⟨⟨[(40:UInt8)]⟩⟩,Value.string ⟨⟨[(41:UInt8)]⟩⟩,Value.string bCC,Value.string bDD,Value.string ⟨⟨[(44:UInt8)]⟩⟩,Value.string ⟨⟨[(45:UInt8)]⟩⟩,Value.string ⟨⟨[(33:UInt8)]⟩⟩,Value.string ⟨⟨[(103:UInt8)]⟩⟩,Value.string ⟨⟨[(65:UInt8)]⟩⟩,Value.string ⟨⟨[(58:UInt8)]⟩⟩,Value.string ⟨⟨[]⟩⟩,Value.string ⟨⟨[(97:UInt8),(110:UInt8),(100:UInt8),(32:UInt8)]⟩⟩]) (Int.toNat (Prod.fst i2 % Prod.snd i2)) ByteArray.empty++ByteArray.extract s (Int.toNat (Option.getD (some (Prod.fst i1 % Prod.snd i1+Prod.fst i3 % Prod.snd i3)) (0:Int))) (Int.toNat (Option.getD none (↑(ByteArray.size s):Int)))),L1 (List.map i0 xs),i0 (i+1)] [s0 s1,L1 (List.map i0 xs),i0 (i+1)]/\hpL []=hpL [])/\Ex.exit 0=Ex.exit 0/\Wk (AV.tup [s0 r]) (AV.tup [s0 r])/\S0):=by kernel_rfl
theorem zat1 (s:ByteArray)(xs:List Int)(r:ByteArray):zaGh (Orc.z) s xs r=(U1 [s0 s,L1 (List.map i0 xs),i0 0] [] (Wk (s0 r) (s0 r)/\S0)):=by kernel_rfl
end Go.Proofs.YtpofhijgccocpaaGreatDoor
end
section
namespace Go.Proofs.YtpofhijgccocpaaGreatDoor
open Go.AS Go.TP
noncomputable section
def zavb (k:Int):ByteArray:=List.getD (zab [Value.string ⟨⟨[32]⟩⟩,Value.string ⟨⟨[40]⟩⟩,Value.string ⟨⟨[41]⟩⟩,Value.string ⟨⟨[58,58]⟩⟩,Value.string ⟨⟨[46,46]⟩⟩,Value.string ⟨⟨[44]⟩⟩,Value.string ⟨⟨[45]⟩⟩,Value.string ⟨⟨[33]⟩⟩,Value.string ⟨⟨[103]⟩⟩,Value.string ⟨⟨[65]⟩⟩,Value.string ⟨⟨[58]⟩⟩,Value.string ⟨⟨[]⟩⟩,Value.string ⟨⟨[97,110,100,32]⟩⟩]) k.toNat ByteArray.empty
theorem zag7 (k:Int):(zavb k).size<=4:=by
 unfold zavb
 generalize k.toNat=j
 by_cases h:j<13
 · revert j;decide
 · rw [List.getD_eq_getElem?_getD,List.getElem?_eq_none (by show 13<=j;omega)];exact Nat.zero_le _
def zaBL (s:ByteArray)(x:Int):ByteArray:=s.extract 0 ((x.tdiv 13) % (s.size:Int)).toNat++zavb (x % 13)++s.extract ((x.tdiv 13) % (s.size:Int)+(x.tdiv 5) % 2).toNat (s.size:Int).toNat
theorem zam6 (s:ByteArray)(x:Int)(h:0<s.size):(zaBL s x).size<=s.size+4:=by
 unfold zaBL
 have h1:=Int.emod_nonneg (x.tdiv 13) (by omega:(s.size:Int)≠0)
 have h2:=Int.emod_lt_of_pos (x.tdiv 13) (by omega:(0:Int)<s.size)
 have h3:=Int.emod_nonneg (x.tdiv 5) (by decide:(2:Int)≠0)
 have h4:=zag7 (x % 13)
 generalize x.tdiv 13 % (s.size:Int)=n at *
 generalize x.tdiv 5 % 2=k at *
 rw [ByteArray.size_append,ByteArray.size_append,ByteArray.size_extract,ByteArray.size_extract]
 omega
abbrev BBn (s:ByteArray)(xs:List Int)(i:Int)(r:ByteArray):Prop:=zab9 Tryz.prog gl0 (fn zacB).ntmps (zaaX (code zacB) 0) [0,1,5] (fun _=>[0]) (zaph s xs i) .nil fun _ q=>q=zaBK r
theorem zarJ:zagZ Tryz.prog gl0 zauV (Sp.con [zaln]):=zabv (s:=zaln) fun i h=>zap8 i.1 i.2 h.1 h.2
theorem zaDu:XBn.Sound:=((zaaR.add zarJ).ask _).askAt _ _
attribute [local irreducible] runL in
theorem zag {os:Orc}{P:Prop}{s s1:ByteArray}{xs:List Int}{i:Int}{r:ByteArray}(ih:P->BBn s1 xs (i+1) r)(g:rBn os P s s1 xs i r):BBn s xs i r :=
 lp_round1 (X:=XBn) zaDu (f:=zacB) (fn:=fn zacB) (code:=code zacB) (fnOk zacB (by kernel_rfl)) (show (fn zacB).body=some (code zacB) by kernel_rfl) (i:=0) (show ([0,1,5]:List Nat).Nodup by decide) ih g
theorem zaxG (xs:List Int)(k:Nat)(u:AV)(h:k<xs.length):(xs.map i0).getD k u=i0 (xs.getD k 0):=by grind
theorem zaCe (n:Int):zaaF (Cx.B (cxV XBn 8 zacB)) shN 3 (i0 n)=true:=by kernel_rfl
theorem zap0 (s s1:ByteArray)(xs:List Int)(i:Int)(h:¬i<xs.length):rBnA zaEu False s s1 xs i s:=by
 rw [zawn,List.length_map];exact ⟨decide_eq_false h,rfl,rfl,rfl,rfl,rfl,rfl,.refl _,.rfl⟩
theorem zapZ (s s1:ByteArray)(xs:List Int)(i:Int)(h:i<xs.length)(h3:¬i<3):rBnB zaEt False s s1 xs i s:=by
 rw [zawm,List.length_map];exact ⟨decide_eq_true h,rfl,decide_eq_false h3,rfl,rfl,rfl,rfl,.refl _,.rfl⟩
theorem zawl (s s1:ByteArray)(xs:List Int)(i:Int)(h:i<xs.length)(h3:i<3)(hs:s.size=0):rBnC zaEs False s s1 xs i s:=by
 rw [zawk,List.length_map];exact ⟨decide_eq_true h,rfl,decide_eq_true h3,rfl,rfl,decide_eq_false (by omega),rfl,.refl _,.rfl⟩
theorem zaAz (x k:Int)(hx : -9223372036854775808<=x/\x<9223372036854775808)(hk:0<k) : -9223372036854775808<=x.tdiv k/\x.tdiv k<9223372036854775808:=by
 by_cases hc:0<=x
 · have a:=Int.tdiv_nonneg hc (Int.le_of_lt hk)
   have b:x.tdiv k<=x:=by
     rw [Int.tdiv_eq_ediv_of_nonneg hc];exact Int.ediv_le_self _ hc
   omega
 · have hc':0 <= -x:=by omega
   have e:x.tdiv k = -((-x).tdiv k):=by rw [Int.neg_tdiv];omega
   have a:=Int.tdiv_nonneg hc' (Int.le_of_lt hk)
   have b:(-x).tdiv k <= -x:=by
     rw [Int.tdiv_eq_ediv_of_nonneg hc'];exact Int.ediv_le_self _ hc'
   omega
theorem zawj (s:ByteArray)(xs:List Int)(i:Int)(r:ByteArray)(hx:okXs xs)(h0:0<=i)(h:i<xs.length)(h3:i<3)(hs:0<s.size)(hm:s.size<=10000):rBnR zaEr True s (zaBL s (xs.getD i.toNat 0)) xs i r:=by
 have hi:i.toNat<xs.length:=by omega
 have hb:=hx (xs.getD i.toNat 0) (by rw [List.getD_eq_getElem?_getD,List.getElem?_eq_getElem hi];exact List.getElem_mem hi)
 rw [zawi]
 simp only [List.length_map,zaxG xs i.toNat _ hi,zaCe,decide_eq_true (⟨h0,h⟩:0<=i/\i<(xs.length:Int))]
 generalize xs.getD i.toNat 0=x at *
 have e:intA (i0 x)=x:=rfl
 rw [e]
 have b13:=zaAz x 13 hb (by decide)
 have b5:=zaAz x 5 hb (by decide)
 have h1:=Int.emod_nonneg (x.tdiv 13) (by omega:(s.size:Int)≠0)
 have h2:=Int.emod_lt_of_pos (x.tdiv 13) (by omega:(0:Int)<s.size)
 have h4:=Int.emod_nonneg (x.tdiv 5) (by decide:(2:Int)≠0)
 have h5:=Int.emod_lt_of_pos (x.tdiv 5) (by decide:(0:Int)<2)
 have h6:=Int.emod_nonneg x (by decide:(13:Int)≠0)
 have h7:=Int.emod_lt_of_pos x (by decide:(0:Int)<13)
 have h8:=zag7 (x % 13)
 refine ⟨decide_eq_true h,trivial,decide_eq_true h3,trivial,trivial,decide_eq_true (by omega),rfl,andT (zaag b13.1 b13.2) rfl,(x.tdiv 13,s.size),⟨⟨by show (0:Int)<s.size;omega,by show (s.size:Int)<=1000000;omega⟩,.refl _,trivial⟩,rfl,
  (x,13),⟨⟨by show (0:Int)<13;decide,by show (13:Int)<=1000000;decide⟩,.refl _,trivial⟩,andT (decide_eq_true ⟨h6,h7⟩) rfl,decide_eq_true ⟨Int.le_refl _,h1,Int.le_of_lt h2,trivial⟩,decide_eq_true ?_,rfl,andT (zaag b5.1 b5.2) rfl,
  (x.tdiv 5,2),⟨⟨by show (0:Int)<2;decide,by show (2:Int)<=1000000;decide⟩,.refl _,trivial⟩,?_,decide_eq_true ⟨?_,?_,Int.le_refl _,trivial⟩,decide_eq_true ?_,zaag (by omega) (by omega),(),⟨trivial,.refl _,trivial⟩,trivial,.refl _,.rfl⟩
 · show (s.extract 0 _).size+(zavb (x % 13)).size<=9223372036854775807
   rw [ByteArray.size_extract];omega
 · show inR .i64 (x.tdiv 13 % (s.size:Int)+x.tdiv 5 % 2)=true
   exact zaag (by omega) (by omega)
 · show (0:Int)<=x.tdiv 13 % (s.size:Int)+x.tdiv 5 % 2
   omega
 · show x.tdiv 13 % (s.size:Int)+x.tdiv 5 % 2<=(s.size:Int)
   omega
 · show (s.extract 0 _++zavb (x % 13)).size+(s.extract _ _).size<=9223372036854775807
   rw [ByteArray.size_append,ByteArray.size_extract,ByteArray.size_extract];omega
attribute [local irreducible] runL in
theorem bnL (xs:List Int)(hx:okXs xs):∀ (m:Nat) (i:Int) (s:ByteArray),0<=i->3-i<=m->(s.size:Int)+4*m<=10000->∃ r,BBn s xs i r:=by
 intro m
 induction m with
 | zero =>
  intro i s h0 hm hs
  refine ⟨s,?_⟩
  by_cases h:i<xs.length
  · exact zag (P:=False) (s1:=s) (fun h=>h.elim) (zapZ s s xs i h (by omega))
  · exact zag (P:=False) (s1:=s) (fun h=>h.elim) (zap0 s s xs i h)
 | succ m ih =>
  intro i s h0 hm hs
  by_cases h:i<xs.length
  · by_cases h3:i<3
    · by_cases hz:0<s.size
      · have hb:=zam6 s (xs.getD i.toNat 0) hz
        obtain ⟨r,hr⟩:=ih (i+1) (zaBL s (xs.getD i.toNat 0)) (by omega) (by omega) (by omega)
        exact ⟨r,zag (fun _=>hr) (zawj s xs i r hx h0 h h3 hz (by omega))⟩
      · exact ⟨s,zag (P:=False) (s1:=s) (fun h=>h.elim) (zawl s s xs i h h3 (by omega))⟩
    · exact ⟨s,zag (P:=False) (s1:=s) (fun h=>h.elim) (zapZ s s xs i h h3)⟩
  · exact ⟨s,zag (P:=False) (s1:=s) (fun h=>h.elim) (zap0 s s xs i h)⟩
theorem zat2 (s:ByteArray)(xs:List Int)(r:ByteArray):zaGh (Orc.z) s xs r:=by
 rw [zat1];exact ⟨(),⟨trivial,.refl _,rfl⟩,.refl _,.rfl⟩
attribute [local irreducible] runF runL in
theorem zaA3 (s:ByteArray)(xs:List Int)(hx:okXs xs)(hs:s.size<=5000):∃ r,F zacB [s0 s,xsA xs] (s0 r):=by
 obtain ⟨r,hr⟩:=bnL xs hx 3 0 s (Int.le_refl _) (by omega) (by omega)
 refine ⟨r,?_⟩
 have hX:(XB.addLp zacB 0 (lpBn True s xs 0 r)).Sound:=zaaR.addLp (fnOk zacB (by kernel_rfl)) (show (fn zacB).body=some (code zacB) by kernel_rfl) (by kernel_rfl)
  (Spl.ok (l:=[⟨Unit,fun _=>True,fun _=>zaph s xs 0,fun _ => .nil,fun _=>zaBK r⟩]) rfl (show ([0,1,5]:List Nat).Nodup by decide) fun s' hs' i _=>by obtain rfl:=List.mem_singleton.1 hs';exact hr)
 exact zade (X:=(XB.addLp zacB 0 (lpBn True s xs 0 r)).ask [zacB]) (d:=10) (hX.ask _) (f:=zacB) (fn:=fn zacB) (code:=code zacB) (fnOk zacB (by kernel_rfl)) (show (fn zacB).body=some (code zacB) by kernel_rfl) (by kernel_rfl) (zat2 s xs r)
end
end Go.Proofs.YtpofhijgccocpaaGreatDoor
end
section
namespace Go.TP
open Go.AS
end Go.TP
end
section
namespace Go.Proofs.YtpofhijgccocpaaGreatDoor
open Go.AS Go.TP
noncomputable section
def sp1e (xs:List AV)(r:AV):Sp := .pure Unit (fun _=>True) (fun _=>xs) (fun _=>r)
def gLev (os:Orc)(k a m:Int)(t:ByteArray)(ks:List AV)(r:Int):Prop:=gF XB [zao4] zao4 os [ndV k a m t ks] (i0 r)
def zaDR:Sp := .pure NV (fun _=>True) (fun v=>[ndV v.k v.a v.m v.t v.ks]) (fun v=>i0 (levelK v.k))
def zavv:Sp := .pure Int (fun n=>0<=n/\n<=999999) (fun n=>[i0 n]) (fun n=>s0 (zaeh n))
def XT0:WX:=((XB.add zao4 (Sp.con [zaDR])).add zamF (Sp.con [zajg])).add zao5 (Sp.con [zavv])
def spBr (P:Nd->Prop):Sp := .pure (Nd × Nat) (fun q=>P q.1) (fun q=>[encP q.1,i0 q.2]) (fun q=>s0 (zaaJ q.1 q.2))
def gBr (os:Orc)(n:Nd)(lv:Nat)(s r:ByteArray):Prop:=gF (XT0.add fTextN (Sp.con [sp1e [encP n] (s0 s)])) [zajL] zajL os [encP n,i0 lv] (s0 r)
def gIn (X:WX)(os:Orc)(a m:Int)(t:ByteArray)(ks:List AV)(r:ByteArray):Prop:=gF X [zaf4] zaf4 os [ndV 10 a m t ks] (s0 r)
def gIn0 (os:Orc)(a m:Int)(t:ByteArray)(ks:List AV)(r:ByteArray):Prop:=gIn XT0 os a m t ks r
def gIn1 (os:Orc)(a m:Int)(t:ByteArray)(x:Nd)(s r:ByteArray):Prop:=gIn (XT0.add fTextN (Sp.con [sp1e [encP x] (s0 s)])) os a m t [encP x] r
def gIn2 (os:Orc)(a m:Int)(t:ByteArray)(x:Nd)(s r:ByteArray):Prop:=gIn (XT0.add fTextN (Sp.con [sp1e [encP x] (s0 s)])) os a m t [encP x] r
def XT1 (P:Nd->Prop):WX:=XT0.add zajL (Sp.con [spBr P])
def gTx (X:WX)(os:Orc)(k a m:Int)(t:ByteArray)(ks:List AV)(r:ByteArray):Prop:=gF X [fTextN] fTextN os [ndV k a m t ks] (s0 r)
def gTxN (os:Orc)(a m:Int)(t:ByteArray)(ks:List AV)(r:ByteArray):Prop:=gTx XT0 os 1 a m t ks r
def gTx2 (os:Orc)(P:Nd->Prop)(a:Int)(x y:Nd)(r:ByteArray):Prop:=gTx (XT1 P) os 2 a 0 ByteArray.empty [encP x,encP y] r
def gTx3 (os:Orc)(P:Nd->Prop)(a:Int)(x y:Nd)(r:ByteArray):Prop:=gTx (XT1 P) os 3 a 0 ByteArray.empty [encP x,encP y] r
def gTx4 (os:Orc)(P:Nd->Prop)(a:Int)(x y:Nd)(r:ByteArray):Prop:=gTx (XT1 P) os 4 a 0 ByteArray.empty [encP x,encP y] r
def gTx8 (os:Orc)(P:Nd->Prop)(a:Int)(x y:Nd)(r:ByteArray):Prop:=gTx (XT1 P) os 8 a 0 ByteArray.empty [encP x,encP y] r
def gTx9 (os:Orc)(P:Nd->Prop)(a:Int)(x y:Nd)(r:ByteArray):Prop:=gTx (XT1 P) os 9 a 0 ByteArray.empty [encP x,encP y] r
def gTx5 (os:Orc)(P:Nd->Prop)(a:Int)(x:Nd)(r:ByteArray):Prop:=gTx (XT1 P) os 5 a 0 ByteArray.empty [encP x] r
def gTx6 (os:Orc)(P:Nd->Prop)(a:Int)(x:Nd)(r:ByteArray):Prop:=gTx (XT1 P) os 6 a 0 ByteArray.empty [encP x] r
def gTx7 (os:Orc)(P:Nd->Prop)(a:Int)(x:Nd)(r:ByteArray):Prop:=gTx (XT1 P) os 7 a 0 ByteArray.empty [encP x] r
def gTxC (os:Orc)(a m:Int)(t:ByteArray)(ks:List AV)(i r:ByteArray):Prop:=gTx (XT0.add zaf4 (Sp.con [sp1e [ndV 10 a m t ks] (s0 i)])) os 10 a m t ks r
def gPr (os:Orc)(n:Nd)(b:Bool)(s r:ByteArray):Prop:=gF ((XB.add zadE (Sp.con [sp1e [encP n] (b0 b)])).add fTextN (Sp.con [sp1e [encP n] (s0 s)])) [zao1] zao1 os [encP n] (s0 r)
end
end Go.Proofs.YtpofhijgccocpaaGreatDoor
end
section
namespace Go.Proofs.YtpofhijgccocpaaGreatDoor
open Go Go.AS Go.TP
noncomputable abbrev zap5 (i1:Nd × Nat):=[AV.agg [i0 (Nd.kind (Prod.fst i1)),i0 (Nd.at_ (Prod.fst i1)),i0 (Nd.num (Prod.fst i1)),s0 (Nd.text (Prod.fst i1)),L5 (encL (Nd.kids (Prod.fst i1)))],i0 (↑(Prod.snd i1):Int)]
noncomputable abbrev zawD (i2:Nd × Nat):=[AV.agg [i0 (Nd.kind (Prod.fst i2)),i0 (Nd.at_ (Prod.fst i2)),i0 (Nd.num (Prod.fst i2)),s0 (Nd.text (Prod.fst i2)),L5 (encL (Nd.kids (Prod.fst i2)))],i0 (↑(Prod.snd i2):Int)]
def zaEZ:Orc:=Orc.s (Orc.t Orc.z) (Orc.s Orc.z (Orc.s Orc.z (Orc.s Orc.z (Orc.s (Orc.t Orc.z) (Orc.s (Orc.t Orc.z) (Orc.s (Orc.t Orc.z) (Orc.s Orc.z Orc.z)))))))
theorem zazl (k a m:Int)(t:ByteArray)(ks:List AV)(r:Int):gLev zaEZ k a m t ks r=(((k==2)=true->Yt (Wk (i0 0) (i0 r)/\S0))/\((k==2)=false->((k==3)=true->Wk (i0 0) (i0 r)/\S0)/\((k==3)=false->((k==4)=true->Wk (i0 1) (i0 r)/\S0)/\((k==4)=false->((k==5)=true->Wk (i0 2) (i0 r)/\S0)/\((k==5)=false->((k==6)=true->Yt (Wk (i0 3) (i0 r)/\S0))/\((k==6)=false->((k==7)=true->Yt (Wk (i0 3) (i0 r)/\S0))/\((k==7)=false->((k==8)=true->Yt (Wk (i0 3) (i0 r)/\S0))/\((k==8)=false->((k==9)=true->Wk (i0 3) (i0 r)/\S0)/\((k==9)=false->Wk (i0 4) (i0 r)/\S0))))))))):=by kernel_rfl
theorem zaC2 (n:Nd)(lv:Nat)(s r:ByteArray):gBr (Orc.s Orc.z Orc.z) n lv s r=(let z1:=(True/\Wks [encP n] [encP n]/\hpL []=hpL []);∃ (i1:NV),(True/\Wks [encP n] [AV.agg [i0 (NV.k i1),i0 (NV.a i1),i0 (NV.m i1),s0 (NV.t i1),L5 (NV.ks i1)]]/\hpL []=hpL [])/\(decide ((↑(levelK (NV.k i1)):Int)<(↑lv:Int))=true->∃ (_:Unit),z1/\decide (1+ByteArray.size s<=9223372036854775807)=true/\decide (ByteArray.size (⟨⟨[(40:UInt8)]⟩⟩++s)+1<=9223372036854775807)=true/\Wk (s0 (⟨⟨[(40:UInt8)]⟩⟩++s++⟨⟨[(41:UInt8)]⟩⟩)) (s0 r)/\S0)/\(decide ((↑(levelK (NV.k i1)):Int)<(↑lv:Int))=false->∃ (_:Unit),z1/\Wk (s0 s) (s0 r)/\S0)):=by kernel_rfl
theorem zazM (a m:Int)(t:ByteArray)(ks:List AV)(r:ByteArray):gIn0 (Orc.t Orc.z) a m t ks r=(∃ (i1:ByteArray),(True/\Wks [s0 t] [s0 i1]/\hpL []=hpL [])/\(zaaB i1==1)=true/\Wk (s0 ⟨⟨[]⟩⟩) (s0 r)/\S0):=by kernel_rfl
theorem zazK (a m:Int)(t:ByteArray)(x:Nd)(s r:ByteArray):gIn1 (Orc.f (Orc.t Orc.z)) a m t x s r=(∃ (i1:ByteArray),(True/\Wks [s0 t] [s0 i1]/\hpL []=hpL [])/\(zaaB i1==1)=false/\(zaaB i1==2)=true/\U1 [encP x] [] (Wk (s0 s) (s0 r)/\S0)):=by kernel_rfl
theorem zazI (a m:Int)(t:ByteArray)(x:Nd)(s r:ByteArray):gIn2 (Orc.f (Orc.f Orc.z)) a m t x s r=(∃ (i1:ByteArray),(True/\Wks [s0 t] [s0 i1]/\hpL []=hpL [])/\(zaaB i1==1)=false/\(zaaB i1==2)=false/\U1 [encP x] [] (decide (ByteArray.size s+1<=9223372036854775807)=true/\∃ (i3:Int),(((0:Int)<=i3/\i3<=999999)/\Wks [i0 m] [i0 i3]/\hpL []=hpL [])/\decide (ByteArray.size (s++⟨⟨[(44:UInt8)]⟩⟩)+ByteArray.size (zaeh i3)<=9223372036854775807)=true/\Wk (s0 (s++⟨⟨[(44:UInt8)]⟩⟩++zaeh i3)) (s0 r)/\S0)):=by kernel_rfl
def zaEI:Orc:=HF (HF (Orc.f Orc.z))
theorem zayh (a m:Int)(t:ByteArray)(ks:List AV)(r:ByteArray):gTxN zaEI a m t ks r=(Nf4 (Nf4 (Nf (Wk (s0 t) (s0 r)/\S0)))):=by kernel_rfl
theorem zayz (P:Nd->Prop)(a:Int)(x y:Nd)(r:ByteArray):gTx2 (Orc.t Orc.z) P a x y r=(Yt (∃ (i1:Nd × Nat),(P (Prod.fst i1)/\Wks [encP x,i0 0] (zap5 i1)/\hpL []=hpL [])/\decide (ByteArray.size (zaaJ (Prod.fst i1) (Prod.snd i1))+1<=9223372036854775807)=true/\∃ (i2:Nd × Nat),(P (Prod.fst i2)/\Wks [encP y,i0 1] (zawD i2)/\hpL []=hpL [])/\decide (ByteArray.size (zaaJ (Prod.fst i1) (Prod.snd i1)++⟨⟨[(43:UInt8)]⟩⟩)+ByteArray.size (zaaJ (Prod.fst i2) (Prod.snd i2))<=9223372036854775807)=true/\Wk (s0 (zaaJ (Prod.fst i1) (Prod.snd i1)++⟨⟨[(43:UInt8)]⟩⟩++zaaJ (Prod.fst i2) (Prod.snd i2))) (s0 r)/\S0)):=by kernel_rfl
theorem zayx (P:Nd->Prop)(a:Int)(x y:Nd)(r:ByteArray):gTx3 (Orc.f (Orc.t Orc.z)) P a x y r=(Nf (Yt (∃ (i1:Nd × Nat),(P (Prod.fst i1)/\Wks [encP x,i0 0] (zap5 i1)/\hpL []=hpL [])/\decide (ByteArray.size (zaaJ (Prod.fst i1) (Prod.snd i1))+1<=9223372036854775807)=true/\∃ (i2:Nd × Nat),(P (Prod.fst i2)/\Wks [encP y,i0 1] (zawD i2)/\hpL []=hpL [])/\decide (ByteArray.size (zaaJ (Prod.fst i1) (Prod.snd i1)++⟨⟨[(45:UInt8)]⟩⟩)+ByteArray.size (zaaJ (Prod.fst i2) (Prod.snd i2))<=9223372036854775807)=true/\Wk (s0 (zaaJ (Prod.fst i1) (Prod.snd i1)++⟨⟨[(45:UInt8)]⟩⟩++zaaJ (Prod.fst i2) (Prod.snd i2))) (s0 r)/\S0))):=by kernel_rfl
theorem zayv (P:Nd->Prop)(a:Int)(x y:Nd)(r:ByteArray):gTx4 (Orc.f (Orc.f (Orc.t Orc.z))) P a x y r=(Nf (Nf (Yt (∃ (i1:Nd × Nat),(P (Prod.fst i1)/\Wks [encP x,i0 1] (zap5 i1)/\hpL []=hpL [])/\decide (ByteArray.size (zaaJ (Prod.fst i1) (Prod.snd i1))+1<=9223372036854775807)=true/\∃ (i2:Nd × Nat),(P (Prod.fst i2)/\Wks [encP y,i0 2] (zawD i2)/\hpL []=hpL [])/\decide (ByteArray.size (zaaJ (Prod.fst i1) (Prod.snd i1)++⟨⟨[(38:UInt8)]⟩⟩)+ByteArray.size (zaaJ (Prod.fst i2) (Prod.snd i2))<=9223372036854775807)=true/\Wk (s0 (zaaJ (Prod.fst i1) (Prod.snd i1)++⟨⟨[(38:UInt8)]⟩⟩++zaaJ (Prod.fst i2) (Prod.snd i2))) (s0 r)/\S0)))):=by kernel_rfl
def zaEL:Orc:=HF (Orc.f (Orc.f (Orc.t Orc.z)))
theorem zayn (P:Nd->Prop)(a:Int)(x y:Nd)(r:ByteArray):gTx8 zaEL P a x y r=(Nf4 (Nf (Nf (Yt (∃ (i1:Nd × Nat),(P (Prod.fst i1)/\Wks [encP x,i0 4] (zap5 i1)/\hpL []=hpL [])/\decide (ByteArray.size (zaaJ (Prod.fst i1) (Prod.snd i1))+2<=9223372036854775807)=true/\∃ (i2:Nd × Nat),(P (Prod.fst i2)/\Wks [encP y,i0 4] (zawD i2)/\hpL []=hpL [])/\decide (ByteArray.size (zaaJ (Prod.fst i1) (Prod.snd i1)++bCC)+ByteArray.size (zaaJ (Prod.fst i2) (Prod.snd i2))<=9223372036854775807)=true/\Wk (s0 (zaaJ (Prod.fst i1) (Prod.snd i1)++bCC++zaaJ (Prod.fst i2) (Prod.snd i2))) (s0 r)/\S0))))):=by kernel_rfl
def zaEK:Orc:=HF (Orc.f (Orc.f (Orc.f (Orc.t Orc.z))))
theorem zayl (P:Nd->Prop)(a:Int)(x y:Nd)(r:ByteArray):gTx9 zaEK P a x y r=(Nf4 (Nf (Nf (Nf (Yt (∃ (i1:Nd × Nat),(P (Prod.fst i1)/\Wks [encP x,i0 4] (zap5 i1)/\hpL []=hpL [])/\decide (ByteArray.size (zaaJ (Prod.fst i1) (Prod.snd i1))+2<=9223372036854775807)=true/\∃ (i2:Nd × Nat),(P (Prod.fst i2)/\Wks [encP y,i0 4] (zawD i2)/\hpL []=hpL [])/\decide (ByteArray.size (zaaJ (Prod.fst i1) (Prod.snd i1)++bDD)+ByteArray.size (zaaJ (Prod.fst i2) (Prod.snd i2))<=9223372036854775807)=true/\Wk (s0 (zaaJ (Prod.fst i1) (Prod.snd i1)++bDD++zaaJ (Prod.fst i2) (Prod.snd i2))) (s0 r)/\S0)))))):=by kernel_rfl
def zaEO:Orc:=Orc.f (Orc.f (Orc.f (Orc.t Orc.z)))
theorem zayt (P:Nd->Prop)(a:Int)(x:Nd)(r:ByteArray):gTx5 zaEO P a x r=(Nf (Nf (Nf (Yt (∃ (i1:Nd × Nat),(P (Prod.fst i1)/\Wks [encP x,i0 2] (zap5 i1)/\hpL []=hpL [])/\decide (1+ByteArray.size (zaaJ (Prod.fst i1) (Prod.snd i1))<=9223372036854775807)=true/\Wk (s0 (⟨⟨[(33:UInt8)]⟩⟩++zaaJ (Prod.fst i1) (Prod.snd i1))) (s0 r)/\S0))))):=by kernel_rfl
def zaEN:Orc:=HF (Orc.t Orc.z)
theorem zayr (P:Nd->Prop)(a:Int)(x:Nd)(r:ByteArray):gTx6 zaEN P a x r=(Nf4 (Yt (∃ (i1:Nd × Nat),(P (Prod.fst i1)/\Wks [encP x,i0 4] (zap5 i1)/\hpL []=hpL [])/\decide (2+ByteArray.size (zaaJ (Prod.fst i1) (Prod.snd i1))<=9223372036854775807)=true/\Wk (s0 (bCC++zaaJ (Prod.fst i1) (Prod.snd i1))) (s0 r)/\S0))):=by kernel_rfl
def zaEM:Orc:=HF (Orc.f (Orc.t Orc.z))
theorem zayp (P:Nd->Prop)(a:Int)(x:Nd)(r:ByteArray):gTx7 zaEM P a x r=(Nf4 (Nf (Yt (∃ (i1:Nd × Nat),(P (Prod.fst i1)/\Wks [encP x,i0 4] (zap5 i1)/\hpL []=hpL [])/\decide (ByteArray.size (zaaJ (Prod.fst i1) (Prod.snd i1))+2<=9223372036854775807)=true/\Wk (s0 (zaaJ (Prod.fst i1) (Prod.snd i1)++bCC)) (s0 r)/\S0)))):=by kernel_rfl
def zaEJ:Orc:=HF (HF (Orc.t Orc.z))
theorem zayj (a m:Int)(t:ByteArray)(ks:List AV)(i r:ByteArray):gTxC zaEJ a m t ks i r=(let z1:=[AV.agg [i0 10,i0 a,i0 m,s0 t,L5 ks]];Nf4 (Nf4 (Yt (decide (ByteArray.size t+1<=9223372036854775807)=true/\U1 z1 [] (decide (ByteArray.size (t++⟨⟨[(40:UInt8)]⟩⟩)+ByteArray.size i<=9223372036854775807)=true/\decide (ByteArray.size (t++⟨⟨[(40:UInt8)]⟩⟩++i)+1<=9223372036854775807)=true/\Wk (s0 (t++⟨⟨[(40:UInt8)]⟩⟩++i++⟨⟨[(41:UInt8)]⟩⟩)) (s0 r)/\S0))))):=by kernel_rfl
theorem zaCE (n:Nd)(b:Bool)(s r:ByteArray):gPr (Orc.s Orc.z Orc.z) n b s r=(let z1:=(True/\Wks [encP n] [encP n]/\hpL []=hpL []);∃ (_:Unit),z1/\((!b)=true->Wk (s0 ⟨⟨[]⟩⟩) (s0 r)/\S0)/\((!b)=false->∃ (_:Unit),z1/\Wk (s0 s) (s0 r)/\S0)):=by kernel_rfl
end Go.Proofs.YtpofhijgccocpaaGreatDoor
end
section
namespace Go.Proofs.YtpofhijgccocpaaGreatDoor
open Go.AS Go.TP
noncomputable section
theorem eqB {a b:Int}(h:a=b):(a==b)=true:=beq_iff_eq.2 h
theorem zanD {f:Nat}{xs:List AV}{r:AV}(h:F f xs r):zagZ Tryz.prog gl0 f (Sp.con [sp1e xs r]):=zabv (s:=sp1e xs r) fun _ _=>h
theorem zazm (k a m:Int)(t:ByteArray)(ks:List AV):gLev zaEZ k a m t ks (levelK k):=by
 rw [zazl]
 have e:∀ (c:Nat),levelK k=c->Wk (AV.lit (.int .i64 (c:Int))) (AV.lit (.int .i64 (levelK k)))/\SameH (hpL []) (hpL []):=fun c h=>by rw [h];exact ⟨.refl _,.rfl⟩
 refine ⟨fun h=>⟨rfl,e 0 (by rw [eqT h];rfl)⟩,fun h1=>⟨fun h=>e 0 (by rw [eqT h];rfl),fun h2=>⟨fun h=>e 1 (by rw [eqT h];rfl),fun h3=>⟨fun h=>e 2 (by rw [eqT h];rfl),fun h4=>⟨fun h=>⟨rfl,e 3 (by rw [eqT h];rfl)⟩,fun h5=>⟨fun h=>⟨rfl,e 3 (by rw [eqT h];rfl)⟩,fun h6=>⟨fun h=>⟨rfl,e 3 (by rw [eqT h];rfl)⟩,fun h7=>⟨fun h=>e 3 (by rw [eqT h];rfl),fun h8=>e 4 ?_⟩⟩⟩⟩⟩⟩⟩⟩
 have h1:=eqF h1
 have h2:=eqF h2
 have h3:=eqF h3
 have h4:=eqF h4
 have h5:=eqF h5
 have h6:=eqF h6
 have h7:=eqF h7
 have h8:=eqF h8
 unfold levelK
 rw [if_neg (by omega),if_neg h3,if_neg h4,if_neg (by omega)]
attribute [local irreducible] runF in
theorem zasI (k a m:Int)(t:ByteArray)(ks:List AV):F zao4 [ndV k a m t ks] (i0 (levelK k)):=F_ok zaaR rfl (by kernel_rfl) (by kernel_rfl) (by kernel_rfl) (zazm k a m t ks)
theorem zai0:XT0.Sound:=((zaaR.add (zabv (s:=zaDR) fun v _=>zasI v.k v.a v.m v.t v.ks)).add (zabv (s:=zajg) fun w _=>zajG w)).add (zabv (s:=zavv) fun n h=>zaxA n (by have:=h.1;omega) (by have:=h.2;omega))
theorem zaC3 (n:Nd)(lv:Nat)(hs:(zabA n).size<=2000000):gBr (Orc.s Orc.z Orc.z) n lv (zabA n) (zaaJ n lv):=by
 rw [zaC2,zaeF]
 refine ⟨⟨n.kind,n.at_,n.num,n.text,encL n.kids⟩,⟨trivial,.refl _,rfl⟩,fun h => ?_,fun h => ?_⟩
 · have h:((levelK n.kind:Nat):Int)<(lv:Int):=of_decide_eq_true h
   have h:levelK n.kind<lv:=by omega
   rw [if_pos h]
   refine ⟨(),⟨trivial,.refl _,rfl⟩,decide_eq_true ?_,decide_eq_true ?_,.refl _,.rfl⟩
   · omega
   · show (zaiW++zabA n).size+1<=9223372036854775807
     rw [ByteArray.size_append]
     have:zaiW.size=1:=rfl
     omega
 · have h:¬((levelK n.kind:Nat):Int)<(lv:Int):=of_decide_eq_false h
   have h:¬levelK n.kind<lv:=by omega
   rw [if_neg h]
   exact ⟨(),⟨trivial,.refl _,rfl⟩,.refl _,.rfl⟩
abbrev FTx (n:Nd):Prop:=F fTextN [encP n] (s0 (zabA n))
def zakA (n:Nd):Prop:=∀ lv:Nat,F zajL [encP n,i0 lv] (s0 (zaaJ n lv))
attribute [local irreducible] runF in
theorem brOf {n:Nd}(h:FTx n)(hs:(zabA n).size<=2000000):zakA n:=fun lv =>
 F_ok (X:=XT0.add fTextN (Sp.con [sp1e [encP n] (s0 (zabA n))])) (zai0.add (zanD h)) rfl (by kernel_rfl) (by kernel_rfl) (by kernel_rfl) (zaC3 n lv hs)
theorem zahX:(XT1 zakA).Sound:=zai0.add (zabv (s:=spBr zakA) fun q h=>h q.2)
theorem zazN (a m:Int)(t:ByteArray)(ks:List AV)(h:zaaB t=1):gIn0 (Orc.t Orc.z) a m t ks ByteArray.empty:=by
 rw [zazM];exact ⟨t,⟨trivial,.refl _,rfl⟩,eqB h,.refl _,.rfl⟩
theorem zazL (a m:Int)(t:ByteArray)(x:Nd)(s:ByteArray)(h:zaaB t=2):gIn1 (Orc.f (Orc.t Orc.z)) a m t x s s:=by
 rw [zazK];exact ⟨t,⟨trivial,.refl _,rfl⟩,beq_eq_false_iff_ne.2 (by omega),eqB h,(),⟨trivial,.refl _,rfl⟩,.refl _,.rfl⟩
theorem zazJ (a m:Int)(t:ByteArray)(x:Nd)(s:ByteArray)(h:zaaB t=3)(h0:0<=m)(h1:m<=999999)(hs:(s++⟨#[44]⟩++zaeh m).size<=2000000):gIn2 (Orc.f (Orc.f Orc.z)) a m t x s (s++⟨#[44]⟩++zaeh m):=by
 rw [ByteArray.size_append,ByteArray.size_append] at hs
 have e:(⟨#[44]⟩:ByteArray).size=1:=rfl
 rw [zazI]
 refine ⟨t,⟨trivial,.refl _,rfl⟩,beq_eq_false_iff_ne.2 (by omega),beq_eq_false_iff_ne.2 (by omega),(),⟨trivial,.refl _,rfl⟩,decide_eq_true (by omega),m,⟨⟨h0,h1⟩,.refl _,rfl⟩,decide_eq_true ?_,.refl _,.rfl⟩
 show (s++⟨#[44]⟩).size+(zaeh m).size<=9223372036854775807
 rw [ByteArray.size_append];omega
theorem zayi (a m:Int)(t:ByteArray)(ks:List AV):gTxN zaEI a m t ks t:=by
 rw [zayh];exact ⟨rfl,rfl,rfl,rfl,rfl,rfl,rfl,rfl,rfl,.refl _,.rfl⟩
theorem zayk (a m:Int)(t:ByteArray)(ks:List AV)(i:ByteArray)(hs:(t++zaiW++i++zaff).size<=2000000):gTxC zaEJ a m t ks i (t++zaiW++i++zaff):=by
 rw [ByteArray.size_append,ByteArray.size_append,ByteArray.size_append] at hs
 have e1:zaiW.size=1:=rfl
 have e2:zaff.size=1:=rfl
 rw [zayj]
 refine ⟨rfl,rfl,rfl,rfl,rfl,rfl,rfl,rfl,rfl,decide_eq_true (by omega),(),⟨trivial,.refl _,rfl⟩,decide_eq_true ?_,decide_eq_true ?_,.refl _,.rfl⟩
 · show (t++zaiW).size+i.size<=9223372036854775807
   rw [ByteArray.size_append];omega
 · show (t++zaiW++i).size+1<=9223372036854775807
   rw [ByteArray.size_append,ByteArray.size_append];omega
theorem zayA (P:Nd->Prop)(a:Int)(x y:Nd)(hx:P x)(hy:P y)(s:(zaaJ x 0++⟨#[43]⟩++zaaJ y 1).size<=2000000):gTx2 (Orc.t Orc.z) P a x y (zaaJ x 0++⟨#[43]⟩++zaaJ y 1):=by
 rw [ByteArray.size_append,ByteArray.size_append] at s
 rw [zayz]
 refine ⟨rfl,(x,0),⟨hx,.refl _,rfl⟩,decide_eq_true ?_,(y,1),⟨hy,.refl _,rfl⟩,decide_eq_true ?_,.refl _,.rfl⟩
 · have e:(⟨#[43]⟩:ByteArray).size=1:=rfl
   show (zaaJ x 0).size+1<=9223372036854775807;omega
 · have e:(⟨#[43]⟩:ByteArray).size=1:=rfl
   show (zaaJ x 0++⟨#[43]⟩).size+(zaaJ y 1).size<=9223372036854775807
   rw [ByteArray.size_append];omega
theorem zayy (P:Nd->Prop)(a:Int)(x y:Nd)(hx:P x)(hy:P y)(s:(zaaJ x 0++⟨#[45]⟩++zaaJ y 1).size<=2000000):gTx3 (Orc.f (Orc.t Orc.z)) P a x y (zaaJ x 0++⟨#[45]⟩++zaaJ y 1):=by
 rw [ByteArray.size_append,ByteArray.size_append] at s
 rw [zayx]
 refine ⟨rfl,rfl,(x,0),⟨hx,.refl _,rfl⟩,decide_eq_true ?_,(y,1),⟨hy,.refl _,rfl⟩,decide_eq_true ?_,.refl _,.rfl⟩
 · have e:(⟨#[45]⟩:ByteArray).size=1:=rfl
   show (zaaJ x 0).size+1<=9223372036854775807;omega
 · have e:(⟨#[45]⟩:ByteArray).size=1:=rfl
   show (zaaJ x 0++⟨#[45]⟩).size+(zaaJ y 1).size<=9223372036854775807
   rw [ByteArray.size_append];omega
theorem zayw (P:Nd->Prop)(a:Int)(x y:Nd)(hx:P x)(hy:P y)(s:(zaaJ x 1++⟨#[38]⟩++zaaJ y 2).size<=2000000):gTx4 (Orc.f (Orc.f (Orc.t Orc.z))) P a x y (zaaJ x 1++⟨#[38]⟩++zaaJ y 2):=by
 rw [ByteArray.size_append,ByteArray.size_append] at s
 rw [zayv]
 refine ⟨rfl,rfl,rfl,(x,1),⟨hx,.refl _,rfl⟩,decide_eq_true ?_,(y,2),⟨hy,.refl _,rfl⟩,decide_eq_true ?_,.refl _,.rfl⟩
 · have e:(⟨#[38]⟩:ByteArray).size=1:=rfl
   show (zaaJ x 1).size+1<=9223372036854775807;omega
 · have e:(⟨#[38]⟩:ByteArray).size=1:=rfl
   show (zaaJ x 1++⟨#[38]⟩).size+(zaaJ y 2).size<=9223372036854775807
   rw [ByteArray.size_append];omega
theorem zayo (P:Nd->Prop)(a:Int)(x y:Nd)(hx:P x)(hy:P y)(s:(zaaJ x 4++⟨#[58,58]⟩++zaaJ y 4).size<=2000000):gTx8 zaEL P a x y (zaaJ x 4++⟨#[58,58]⟩++zaaJ y 4):=by
 rw [ByteArray.size_append,ByteArray.size_append] at s
 rw [zayn]
 refine ⟨rfl,rfl,rfl,rfl,rfl,rfl,rfl,(x,4),⟨hx,.refl _,rfl⟩,decide_eq_true ?_,(y,4),⟨hy,.refl _,rfl⟩,decide_eq_true ?_,.refl _,.rfl⟩
 · have e:(⟨#[58,58]⟩:ByteArray).size=2:=rfl
   show (zaaJ x 4).size+2<=9223372036854775807;omega
 · have e:(⟨#[58,58]⟩:ByteArray).size=2:=rfl
   show (zaaJ x 4++⟨#[58,58]⟩).size+(zaaJ y 4).size<=9223372036854775807
   rw [ByteArray.size_append];omega
theorem zaym (P:Nd->Prop)(a:Int)(x y:Nd)(hx:P x)(hy:P y)(s:(zaaJ x 4++⟨#[46,46]⟩++zaaJ y 4).size<=2000000):gTx9 zaEK P a x y (zaaJ x 4++⟨#[46,46]⟩++zaaJ y 4):=by
 rw [ByteArray.size_append,ByteArray.size_append] at s
 rw [zayl]
 refine ⟨rfl,rfl,rfl,rfl,rfl,rfl,rfl,rfl,(x,4),⟨hx,.refl _,rfl⟩,decide_eq_true ?_,(y,4),⟨hy,.refl _,rfl⟩,decide_eq_true ?_,.refl _,.rfl⟩
 · have e:(⟨#[46,46]⟩:ByteArray).size=2:=rfl
   show (zaaJ x 4).size+2<=9223372036854775807;omega
 · have e:(⟨#[46,46]⟩:ByteArray).size=2:=rfl
   show (zaaJ x 4++⟨#[46,46]⟩).size+(zaaJ y 4).size<=9223372036854775807
   rw [ByteArray.size_append];omega
theorem zayu (P:Nd->Prop)(a:Int)(x:Nd)(hx:P x)(s:(⟨#[33]⟩++zaaJ x 2).size<=2000000):gTx5 zaEO P a x (⟨#[33]⟩++zaaJ x 2):=by
 rw [ByteArray.size_append] at s
 have e:(⟨#[33]⟩:ByteArray).size=1:=rfl
 rw [zayt]
 refine ⟨rfl,rfl,rfl,rfl,(x,2),⟨hx,.refl _,rfl⟩,decide_eq_true ?_,.refl _,.rfl⟩
 show 1+(zaaJ x 2).size<=9223372036854775807;omega
theorem zays (P:Nd->Prop)(a:Int)(x:Nd)(hx:P x)(s:(⟨#[58,58]⟩++zaaJ x 4).size<=2000000):gTx6 zaEN P a x (⟨#[58,58]⟩++zaaJ x 4):=by
 rw [ByteArray.size_append] at s
 have e:(⟨#[58,58]⟩:ByteArray).size=2:=rfl
 rw [zayr]
 refine ⟨rfl,rfl,rfl,rfl,rfl,(x,4),⟨hx,.refl _,rfl⟩,decide_eq_true ?_,.refl _,.rfl⟩
 show 2+(zaaJ x 4).size<=9223372036854775807;omega
theorem zayq (P:Nd->Prop)(a:Int)(x:Nd)(hx:P x)(s:(zaaJ x 4++⟨#[58,58]⟩).size<=2000000):gTx7 zaEM P a x (zaaJ x 4++⟨#[58,58]⟩):=by
 rw [ByteArray.size_append] at s
 have e:(⟨#[58,58]⟩:ByteArray).size=2:=rfl
 rw [zayp]
 refine ⟨rfl,rfl,rfl,rfl,rfl,rfl,(x,4),⟨hx,.refl _,rfl⟩,decide_eq_true ?_,.refl _,.rfl⟩
 show (zaaJ x 4).size+2<=9223372036854775807;omega
variable {a m:Int} {t r:ByteArray}
attribute [local irreducible] runF in
theorem txFn {X:WX}(hX:X.Sound)(hp:X.px=X0){os:Orc}{k:Int}{ks:List AV}(g:gTx X os k a m t ks r):F fTextN [ndV k a m t ks] (s0 r):=F_ok hX hp (by kernel_rfl) (by kernel_rfl) (by kernel_rfl) g
attribute [local irreducible] runF in
theorem inFn {X:WX}(hX:X.Sound)(hp:X.px=X0){os:Orc}{ks:List AV}(g:gIn X os a m t ks r):F zaf4 [ndV 10 a m t ks] (s0 r):=F_ok hX hp (by kernel_rfl) (by kernel_rfl) (by kernel_rfl) g
theorem zabK (n:Nd)(lv:Nat):(zabA n).size<=(zaaJ n lv).size:=by grind [zaeF,ByteArray.size_append]
attribute [local irreducible] runF in
theorem inC {ks:List Nd}{i:ByteArray}(hr:r=t++zaiW++i++zaff)(hs:r.size<=2000000)(h:F zaf4 [ndV 10 a m t (encL ks)] (s0 i)):F fTextN [encP (.mk 10 a m t ks)] (s0 r):=by
 subst hr
 exact txFn (X:=XT0.add zaf4 (Sp.con [sp1e [ndV 10 a m t (encL ks)] (s0 i)])) (zai0.add (zanD h)) rfl (zayk a m t (encL ks) i hs)
attribute [local irreducible] runF in
theorem zaru (n:Nd)(h:zaas n=true):(zabA n).size<=2000000->FTx n:=by
 refine zagr (P:=fun n=>(zabA n).size<=2000000->FTx n) ?_ ?_ ?_ ?_ ?_ n h
 · intro a t _ _
   show F fTextN [encP (.mk 1 a 0 t [])] (s0 (zabA (.mk 1 a 0 t [])))
   rw [zanJ]
   exact txFn zai0 rfl (zayi a 0 t [])
 · intro k a x y hk _ _ hx hy hs
   have two:∀ (s:Int) (i j:Nat),zafJ (.mk k a 0 ByteArray.empty [x,y])=atS x i++sg s::atS y j->s≠1->(zabA (.mk k a 0 ByteArray.empty [x,y])=zaaJ x i++zarL s++zaaJ y j)/\zakA x/\zakA y:=fun s i j ht h1=>by
     have e:=zah9 ht h1
     rw [e,ByteArray.size_append,ByteArray.size_append] at hs
     have h1:=zabK x i
     have h2:=zabK y j
     exact ⟨e,brOf (hx (by omega)) (by omega),brOf (hy (by omega)) (by omega)⟩
   show F fTextN [ndV k a 0 ByteArray.empty (encL [x,y])] (s0 (zabA (.mk k a 0 ByteArray.empty [x,y])))
   rw [zagO]
   rcases hk with rfl|rfl|rfl|rfl|rfl
   · obtain ⟨e,bx,by'⟩:=two 7 0 1 rfl (by decide)
     rw [e] at hs ⊢;exact txFn zahX rfl (zayA zakA a x y bx by' hs)
   · obtain ⟨e,bx,by'⟩:=two 8 0 1 rfl (by decide)
     rw [e] at hs ⊢;exact txFn zahX rfl (zayy zakA a x y bx by' hs)
   · obtain ⟨e,bx,by'⟩:=two 9 1 2 rfl (by decide)
     rw [e] at hs ⊢;exact txFn zahX rfl (zayw zakA a x y bx by' hs)
   · obtain ⟨e,bx,by'⟩:=two 5 4 4 rfl (by decide)
     rw [e] at hs ⊢;exact txFn zahX rfl (zayo zakA a x y bx by' hs)
   · obtain ⟨e,bx,by'⟩:=two 6 4 4 rfl (by decide)
     rw [e] at hs ⊢;exact txFn zahX rfl (zaym zakA a x y bx by' hs)
 · intro k a x hk _ hx hs
   show F fTextN [ndV k a 0 ByteArray.empty (encL [x])] (s0 (zabA (.mk k a 0 ByteArray.empty [x])))
   rw [zae]
   rcases hk with rfl|rfl|rfl
   · rw [zart] at hs ⊢
     have hs':=hs
     rw [ByteArray.size_append] at hs'
     have h1:=zabK x 2
     exact txFn zahX rfl (zayu zakA a x (brOf (hx (by omega)) (by omega)) hs)
   · rw [zars] at hs ⊢
     have hs':=hs
     rw [ByteArray.size_append] at hs'
     have h1:=zabK x 4
     exact txFn zahX rfl (zays zakA a x (brOf (hx (by omega)) (by omega)) hs)
   · rw [zarr] at hs ⊢
     have hs':=hs
     rw [ByteArray.size_append] at hs'
     have h1:=zabK x 4
     exact txFn zahX rfl (zayq zakA a x (brOf (hx (by omega)) (by omega)) hs)
 · intro a t ht hs
   exact inC (zak8 ht) hs (inFn zai0 rfl (zazN a 0 t _ ht))
 · intro a n t x hn _ hx hs
   rcases hn with ⟨h1,h2⟩|⟨h1,h2,h3⟩
   · have e:=zak7 (a:=a) (n:=n) (x:=x) h1
     have hs':=hs
     rw [e,ByteArray.size_append,ByteArray.size_append,ByteArray.size_append] at hs'
     refine inC e hs ?_
     rw [zae]
     exact inFn (X:=XT0.add fTextN (Sp.con [sp1e [encP x] (s0 (zabA x))])) (zai0.add (zanD (hx (by omega)))) rfl (zazL a n t x (zabA x) h1)
   · have e:=zak6 (a:=a) (n:=n) (x:=x) h1
     have hs':=hs
     rw [e] at hs'
     simp only [ByteArray.size_append] at hs'
     refine inC e hs ?_
     rw [zae]
     exact inFn (X:=XT0.add fTextN (Sp.con [sp1e [encP x] (s0 (zabA x))])) (zai0.add (zanD (hx (by omega)))) rfl (zazJ a n t x (zabA x) h1 h2 h3 (by simp only [ByteArray.size_append];omega))
theorem zaCF (n:Nd)(s:ByteArray):gPr (Orc.s Orc.z Orc.z) n true s s:=by
 rw [zaCE]
 exact ⟨(),⟨trivial,.refl _,rfl⟩,fun h=>(by cases h),fun _=>⟨(),⟨trivial,.refl _,rfl⟩,.refl _,.rfl⟩⟩
attribute [local irreducible] runF in
theorem zasr (n:Nd)(h:zaas n=true)(hf:zae7 n)(hs:(zabA n).size<=2000000):F zao1 [encP n] (s0 (zabA n)):=by
 have h1:=zalt n hf
 have h1:F zadE [encP n] (b0 (zaas n)):=h1
 rw [h] at h1
 exact F_ok (X:=(XB.add zadE (Sp.con [sp1e [encP n] (b0 true)])).add fTextN (Sp.con [sp1e [encP n] (s0 (zabA n))])) ((zaaR.add (zanD h1)).add (zanD (zaru n h hs))) rfl (by kernel_rfl) (by kernel_rfl) (by kernel_rfl) (zaCF n (zabA n))
abbrev fYPr:Nat:=18
abbrev zaqS:Nat:=49
abbrev zaBE:Nat:=50
def gYD1 (os:Orc)(n:Int)(r:ByteArray):Prop:=gF XB [zaqS] zaqS os [i0 n] (s0 r)
def gYD2 (os:Orc)(n q:Int)(s r:ByteArray):Prop:=gF (XB.add zaqS (Sp.con [sp1e [i0 q] (s0 s)])) [zaqS] zaqS os [i0 n] (s0 r)
def gYL (os:Orc)(k a m:Int)(t:ByteArray)(vs:List AV)(r:Int):Prop:=gF XB [zaBE] zaBE os [rgV k a m t vs] (i0 r)
abbrev spYL:Sp := .pure NV (fun _=>True) (fun v=>[rgV v.k v.a v.m v.t v.ks]) (fun v=>i0 ((levelK v.k:Int)+1))
abbrev spYP (ns:List AV)(ks:List ((Int × Int) × ByteArray)):Sp:=⟨(Int × Int) × ByteArray,fun q=>q∈ks,fun q=>[zadO ns,i0 q.1.1,i0 q.1.2],fun _ => .nil,fun q=>⟨s0 q.2,.nil,[]⟩⟩
def XYP (ns:List AV)(ks:List ((Int × Int) × ByteArray)):WX:=(((XB.add zaBE (Sp.con [spYL])).add fYPr (Sp.con [spYP ns ks])).ask [fYPr]).askAt fYPr [14,15,57,58,64,65,73,74,80,81,89,90,96,97,105,106,114,115,123,124,132,133,139,140,148,149,155,156,29,30]
def XYC (ns:List AV)(ks:List ((Int × Int) × ByteArray))(t:ByteArray)(ar m:Int)(b:Bool)(d:ByteArray):WX:=((XYP ns ks).add zabe (Sp.con [sp1e [s0 t] (.tup [i0 ar,b0 b])])).add zaqS (Sp.con [sp1e [i0 m] (s0 d)])
def gYP (X:WX)(os:Orc)(ns:List AV)(p tg:Int)(r:ByteArray):Prop:=runF X 12 fYPr (fn fYPr) (code fYPr) os 0 [] [zadO ns,i0 p,i0 tg] .nil ⟨s0 r,.nil,[]⟩
def gYP1 (os:Orc)(ns:List AV)(ks:List ((Int × Int) × ByteArray))(p tg:Int)(r:ByteArray):Prop:=gYP (XYP ns ks) os ns p tg r
def gYP2 (os:Orc)(ns:List AV)(ks:List ((Int × Int) × ByteArray))(p tg:Int)(r:ByteArray):Prop:=gYP (XYP ns ks) os ns p tg r
def gYP3 (os:Orc)(ns:List AV)(ks:List ((Int × Int) × ByteArray))(p tg:Int)(r:ByteArray):Prop:=gYP (XYP ns ks) os ns p tg r
def gYP4 (os:Orc)(ns:List AV)(ks:List ((Int × Int) × ByteArray))(p tg:Int)(r:ByteArray):Prop:=gYP (XYP ns ks) os ns p tg r
def gYP8 (os:Orc)(ns:List AV)(ks:List ((Int × Int) × ByteArray))(p tg:Int)(r:ByteArray):Prop:=gYP (XYP ns ks) os ns p tg r
def gYP9 (os:Orc)(ns:List AV)(ks:List ((Int × Int) × ByteArray))(p tg:Int)(r:ByteArray):Prop:=gYP (XYP ns ks) os ns p tg r
def gYP5 (os:Orc)(ns:List AV)(ks:List ((Int × Int) × ByteArray))(p tg:Int)(r:ByteArray):Prop:=gYP (XYP ns ks) os ns p tg r
def gYP6 (os:Orc)(ns:List AV)(ks:List ((Int × Int) × ByteArray))(p tg:Int)(r:ByteArray):Prop:=gYP (XYP ns ks) os ns p tg r
def gYP7 (os:Orc)(ns:List AV)(ks:List ((Int × Int) × ByteArray))(p tg:Int)(r:ByteArray):Prop:=gYP (XYP ns ks) os ns p tg r
def gYPA (os:Orc)(ns:List AV)(ks:List ((Int × Int) × ByteArray))(p tg:Int)(t:ByteArray)(ar m:Int)(d r:ByteArray):Prop:=gYP (XYC ns ks t ar m false d) os ns p tg r
def gYPB (os:Orc)(ns:List AV)(ks:List ((Int × Int) × ByteArray))(p tg:Int)(t:ByteArray)(ar m:Int)(d r:ByteArray):Prop:=gYP (XYC ns ks t ar m false d) os ns p tg r
def gYPC (os:Orc)(ns:List AV)(ks:List ((Int × Int) × ByteArray))(p tg:Int)(t:ByteArray)(ar m:Int)(d r:ByteArray):Prop:=gYP (XYC ns ks t ar m true d) os ns p tg r
end
end Go.Proofs.YtpofhijgccocpaaGreatDoor
end
section
namespace Go.Proofs.YtpofhijgccocpaaGreatDoor
open Go Go.AS Go.TP
noncomputable abbrev zabm (ns:List AV) (p:Int):=(List.getD ns (Int.toNat p) uu)
noncomputable abbrev zagu (ns:List AV) (p:Int):=[AV.agg [i0 (intA (nthA 0 (zabm ns p))),i0 (intA (nthA 1 (zabm ns p))),i0 (intA (nthA 2 (zabm ns p))),s0 (strA (nthA 3 (zabm ns p))),L1 (elsA (nthA 4 (zabm ns p)))]]
noncomputable abbrev zahZ (ns:List AV)(p:Int)(ks:List ((Int × Int) × ByteArray)):=(decide ((0:Int)<=(0:Int)/\(0:Int)<(↑(List.length (elsA (nthA 4 (zabm ns p)))):Int))&&(Nat.beq 1 1&&(zaaF (Cx.B (cxV (XYP ns ks) 12 fYPr)) shN 3 (List.getD (elsA (nthA 4 (zabm ns p))) 0 uu)&&(false||true))))
noncomputable abbrev zag0 (p:Int)(ns:List AV)(ks:List ((Int × Int) × ByteArray)):=(decide ((0:Int)<=p/\p<(↑(List.length ns):Int))&&(Nat.beq 5 5&&(zaaF (Cx.B (cxV (XYP ns ks) 12 fYPr)) shN 33 (zabm ns p)&&(true||false))))
noncomputable abbrev zanp (ns:List AV)(p:Int)(ks:List ((Int × Int) × ByteArray)):=(decide ((0:Int)<=(1:Int)/\(1:Int)<(↑(List.length (elsA (nthA 4 (zabm ns p)))):Int))&&(Nat.beq 1 1&&(zaaF (Cx.B (cxV (XYP ns ks) 12 fYPr)) shN 3 (List.getD (elsA (nthA 4 (zabm ns p))) 1 uu)&&(false||true))))
noncomputable abbrev zakC (ns:List AV) (p:Int) (i3:NV):=(True/\Wks (zagu ns p) [AV.agg [i0 (NV.k i3),i0 (NV.a i3),i0 (NV.m i3),s0 (NV.t i3),L1 (NV.ks i3)]]/\hpL []=hpL [])
theorem zayc (n:Int)(r:ByteArray):gYD1 (Orc.t Orc.z) n r=(decide (n<10)=true/\inR IntKind.i64 ((48:Int)+n)=true/\Yt (Yt (Wk (s0 ⟨⟨[UInt8.ofNat (Int.toNat (IntKind.wrap IntKind.u8 ((48:Int)+n)))]⟩⟩) (s0 r)/\S0))):=by kernel_rfl
theorem zayb (n q:Int)(s r:ByteArray):gYD2 (Orc.f Orc.z) n q s r=(let z1:=[UInt8.ofNat (Int.toNat (IntKind.wrap IntKind.u8 ((48:Int)+Int.tmod n (10:Int))))];decide (n<10)=false/\(inR IntKind.i64 (Int.tdiv n (10:Int))&&true)=true/\∃ (_:Unit),(True/\Wks [i0 (Int.tdiv n (10:Int))] [i0 q]/\hpL []=hpL [])/\Yt (inR IntKind.i64 ((48:Int)+Int.tmod n (10:Int))=true/\Yt (Yt (decide (ByteArray.size s+ByteArray.size ⟨⟨z1⟩⟩<=9223372036854775807)=true/\Wk (s0 (s++⟨⟨z1⟩⟩)) (s0 r)/\S0)))):=by kernel_rfl
def ogYL:Orc:=Orc.s (Orc.t Orc.z) (Orc.s Orc.z (Orc.s Orc.z (Orc.s Orc.z (Orc.s (Orc.t Orc.z) (Orc.s (Orc.t Orc.z) (Orc.s (Orc.t Orc.z) (Orc.s Orc.z Orc.z)))))))
theorem zaCC (k a m:Int)(t:ByteArray)(vs:List AV)(r:Int):gYL ogYL k a m t vs r=(((k==2)=true->Yt (Wk (i0 1) (i0 r)/\S0))/\((k==2)=false->((k==3)=true->Wk (i0 1) (i0 r)/\S0)/\((k==3)=false->((k==4)=true->Wk (i0 2) (i0 r)/\S0)/\((k==4)=false->((k==5)=true->Wk (i0 3) (i0 r)/\S0)/\((k==5)=false->((k==6)=true->Yt (Wk (i0 4) (i0 r)/\S0))/\((k==6)=false->((k==7)=true->Yt (Wk (i0 4) (i0 r)/\S0))/\((k==7)=false->((k==8)=true->Yt (Wk (i0 4) (i0 r)/\S0))/\((k==8)=false->((k==9)=true->Wk (i0 4) (i0 r)/\S0)/\((k==9)=false->Wk (i0 5) (i0 r)/\S0))))))))):=by kernel_rfl
theorem zay (ns:List AV)(ks:List ((Int × Int) × ByteArray))(p tg:Int)(r:ByteArray):gYP1 (Orc.t (Orc.s Orc.z Orc.z)) ns ks p tg r=(let z1:=(nthA 3 (zabm ns p));(zag0 p ns ks)=true/\(intA (nthA 0 (zabm ns p))==1)=true/\∃ (i1:NV),(True/\Wks (zagu ns p) [AV.agg [i0 (NV.k i1),i0 (NV.a i1),i0 (NV.m i1),s0 (NV.t i1),L1 (NV.ks i1)]]/\hpL []=hpL [])/\(decide ((↑(levelK (NV.k i1)):Int)+1<tg)=true->decide (1+ByteArray.size (strA z1)<=9223372036854775807)=true/\decide (ByteArray.size (⟨⟨[(40:UInt8)]⟩⟩++strA z1)+1<=9223372036854775807)=true/\Wk (s0 (⟨⟨[(40:UInt8)]⟩⟩++strA z1++⟨⟨[(41:UInt8)]⟩⟩)) (s0 r)/\S0)/\(decide ((↑(levelK (NV.k i1)):Int)+1<tg)=false->Wk (s0 (strA z1)) (s0 r)/\S0)):=by kernel_rfl
def zaEH:Orc:=Orc.f (Orc.t (Orc.s Orc.z Orc.z))
theorem zax8 (ns:List AV)(ks:List ((Int × Int) × ByteArray))(p tg:Int)(r:ByteArray):gYP2 zaEH ns ks p tg r=(let z1:=[(43:UInt8)];let z2:=AV.agg [L5 ns];(zag0 p ns ks)=true/\(intA (nthA 0 (zabm ns p))==1)=false/\(intA (nthA 0 (zabm ns p))==2)=true/\(zahZ ns p ks)=true/\∃ (i1:(Int × Int) × ByteArray),(i1∈ks/\Wks [z2,i0 (intA (List.getD (elsA (nthA 4 (zabm ns p))) 0 uu)),i0 1] [z2,i0 (Prod.fst (Prod.fst i1)),i0 (Prod.snd (Prod.fst i1))]/\hpL []=hpL [])/\decide (ByteArray.size (Prod.snd i1)+1<=9223372036854775807)=true/\(zanp ns p ks)=true/\∃ (i2:(Int × Int) × ByteArray),(i2∈ks/\Wks [z2,i0 (intA (List.getD (elsA (nthA 4 (zabm ns p))) 1 uu)),i0 2] [z2,i0 (Prod.fst (Prod.fst i2)),i0 (Prod.snd (Prod.fst i2))]/\hpL []=hpL [])/\decide (ByteArray.size (Prod.snd i1++⟨⟨z1⟩⟩)+ByteArray.size (Prod.snd i2)<=9223372036854775807)=true/\∃ (i3:NV),(zakC ns p i3)/\(decide ((↑(levelK (NV.k i3)):Int)+1<tg)=true->decide (1+ByteArray.size (Prod.snd i1++⟨⟨z1⟩⟩++Prod.snd i2)<=9223372036854775807)=true/\decide (ByteArray.size (⟨⟨[(40:UInt8)]⟩⟩++(Prod.snd i1++⟨⟨z1⟩⟩++Prod.snd i2))+1<=9223372036854775807)=true/\Wk (s0 (⟨⟨[(40:UInt8)]⟩⟩++(Prod.snd i1++⟨⟨z1⟩⟩++Prod.snd i2)++⟨⟨[(41:UInt8)]⟩⟩)) (s0 r)/\S0)/\(decide ((↑(levelK (NV.k i3)):Int)+1<tg)=false->Wk (s0 (Prod.snd i1++⟨⟨z1⟩⟩++Prod.snd i2)) (s0 r)/\S0)):=by kernel_rfl
def zaEG:Orc:=Orc.f (Orc.f (Orc.t (Orc.s Orc.z Orc.z)))
theorem zax6 (ns:List AV)(ks:List ((Int × Int) × ByteArray))(p tg:Int)(r:ByteArray):gYP3 zaEG ns ks p tg r=(let z1:=[(45:UInt8)];let z2:=(nthA 0 (zabm ns p));let z3:=AV.agg [L5 ns];(zag0 p ns ks)=true/\(intA z2==1)=false/\(intA z2==2)=false/\(intA z2==3)=true/\(zahZ ns p ks)=true/\∃ (i1:(Int × Int) × ByteArray),(i1∈ks/\Wks [z3,i0 (intA (List.getD (elsA (nthA 4 (zabm ns p))) 0 uu)),i0 1] [z3,i0 (Prod.fst (Prod.fst i1)),i0 (Prod.snd (Prod.fst i1))]/\hpL []=hpL [])/\decide (ByteArray.size (Prod.snd i1)+1<=9223372036854775807)=true/\(zanp ns p ks)=true/\∃ (i2:(Int × Int) × ByteArray),(i2∈ks/\Wks [z3,i0 (intA (List.getD (elsA (nthA 4 (zabm ns p))) 1 uu)),i0 2] [z3,i0 (Prod.fst (Prod.fst i2)),i0 (Prod.snd (Prod.fst i2))]/\hpL []=hpL [])/\decide (ByteArray.size (Prod.snd i1++⟨⟨z1⟩⟩)+ByteArray.size (Prod.snd i2)<=9223372036854775807)=true/\∃ (i3:NV),(zakC ns p i3)/\(decide ((↑(levelK (NV.k i3)):Int)+1<tg)=true->decide (1+ByteArray.size (Prod.snd i1++⟨⟨z1⟩⟩++Prod.snd i2)<=9223372036854775807)=true/\decide (ByteArray.size (⟨⟨[(40:UInt8)]⟩⟩++(Prod.snd i1++⟨⟨z1⟩⟩++Prod.snd i2))+1<=9223372036854775807)=true/\Wk (s0 (⟨⟨[(40:UInt8)]⟩⟩++(Prod.snd i1++⟨⟨z1⟩⟩++Prod.snd i2)++⟨⟨[(41:UInt8)]⟩⟩)) (s0 r)/\S0)/\(decide ((↑(levelK (NV.k i3)):Int)+1<tg)=false->Wk (s0 (Prod.snd i1++⟨⟨z1⟩⟩++Prod.snd i2)) (s0 r)/\S0)):=by kernel_rfl
def zaEF:Orc:=Orc.f (Orc.f (Orc.f (Orc.t (Orc.s Orc.z Orc.z))))
theorem zax4 (ns:List AV)(ks:List ((Int × Int) × ByteArray))(p tg:Int)(r:ByteArray):gYP4 zaEF ns ks p tg r=(let z1:=(nthA 0 (zabm ns p));let z2:=[(38:UInt8)];let z3:=AV.agg [L5 ns];(zag0 p ns ks)=true/\(intA z1==1)=false/\(intA z1==2)=false/\(intA z1==3)=false/\(intA z1==4)=true/\(zahZ ns p ks)=true/\∃ (i1:(Int × Int) × ByteArray),(i1∈ks/\Wks [z3,i0 (intA (List.getD (elsA (nthA 4 (zabm ns p))) 0 uu)),i0 2] [z3,i0 (Prod.fst (Prod.fst i1)),i0 (Prod.snd (Prod.fst i1))]/\hpL []=hpL [])/\decide (ByteArray.size (Prod.snd i1)+1<=9223372036854775807)=true/\(zanp ns p ks)=true/\∃ (i2:(Int × Int) × ByteArray),(i2∈ks/\Wks [z3,i0 (intA (List.getD (elsA (nthA 4 (zabm ns p))) 1 uu)),i0 3] [z3,i0 (Prod.fst (Prod.fst i2)),i0 (Prod.snd (Prod.fst i2))]/\hpL []=hpL [])/\decide (ByteArray.size (Prod.snd i1++⟨⟨z2⟩⟩)+ByteArray.size (Prod.snd i2)<=9223372036854775807)=true/\∃ (i3:NV),(zakC ns p i3)/\(decide ((↑(levelK (NV.k i3)):Int)+1<tg)=true->decide (1+ByteArray.size (Prod.snd i1++⟨⟨z2⟩⟩++Prod.snd i2)<=9223372036854775807)=true/\decide (ByteArray.size (⟨⟨[(40:UInt8)]⟩⟩++(Prod.snd i1++⟨⟨z2⟩⟩++Prod.snd i2))+1<=9223372036854775807)=true/\Wk (s0 (⟨⟨[(40:UInt8)]⟩⟩++(Prod.snd i1++⟨⟨z2⟩⟩++Prod.snd i2)++⟨⟨[(41:UInt8)]⟩⟩)) (s0 r)/\S0)/\(decide ((↑(levelK (NV.k i3)):Int)+1<tg)=false->Wk (s0 (Prod.snd i1++⟨⟨z2⟩⟩++Prod.snd i2)) (s0 r)/\S0)):=by kernel_rfl
def zaEE:Orc:=HF (Orc.t (Orc.s Orc.z Orc.z))
theorem zax2 (ns:List AV)(ks:List ((Int × Int) × ByteArray))(p tg:Int)(r:ByteArray):gYP5 zaEE ns ks p tg r=(let z1:=(nthA 0 (zabm ns p));let z2:=[(33:UInt8)];(zag0 p ns ks)=true/\(intA z1==1)=false/\(intA z1==2)=false/\(intA z1==3)=false/\(intA z1==4)=false/\(intA z1==5)=true/\(zahZ ns p ks)=true/\∃ (i1:(Int × Int) × ByteArray),(i1∈ks/\Wks [AV.agg [L5 ns],i0 (intA (List.getD (elsA (nthA 4 (zabm ns p))) 0 uu)),i0 3] [AV.agg [L5 ns],i0 (Prod.fst (Prod.fst i1)),i0 (Prod.snd (Prod.fst i1))]/\hpL []=hpL [])/\decide (1+ByteArray.size (Prod.snd i1)<=9223372036854775807)=true/\∃ (i2:NV),(True/\Wks (zagu ns p) [AV.agg [i0 (NV.k i2),i0 (NV.a i2),i0 (NV.m i2),s0 (NV.t i2),L1 (NV.ks i2)]]/\hpL []=hpL [])/\(decide ((↑(levelK (NV.k i2)):Int)+1<tg)=true->decide (1+ByteArray.size (⟨⟨z2⟩⟩++Prod.snd i1)<=9223372036854775807)=true/\decide (ByteArray.size (⟨⟨[(40:UInt8)]⟩⟩++(⟨⟨z2⟩⟩++Prod.snd i1))+1<=9223372036854775807)=true/\Wk (s0 (⟨⟨[(40:UInt8)]⟩⟩++(⟨⟨z2⟩⟩++Prod.snd i1)++⟨⟨[(41:UInt8)]⟩⟩)) (s0 r)/\S0)/\(decide ((↑(levelK (NV.k i2)):Int)+1<tg)=false->Wk (s0 (⟨⟨z2⟩⟩++Prod.snd i1)) (s0 r)/\S0)):=by kernel_rfl
def zaED:Orc:=HF (Orc.f (Orc.t (Orc.s Orc.z Orc.z)))
theorem zax0 (ns:List AV)(ks:List ((Int × Int) × ByteArray))(p tg:Int)(r:ByteArray):gYP6 zaED ns ks p tg r=(let z1:=(nthA 0 (zabm ns p));(zag0 p ns ks)=true/\(intA z1==1)=false/\(intA z1==2)=false/\(intA z1==3)=false/\(intA z1==4)=false/\(intA z1==5)=false/\(intA z1==6)=true/\(zahZ ns p ks)=true/\∃ (i1:(Int × Int) × ByteArray),(i1∈ks/\Wks [AV.agg [L5 ns],i0 (intA (List.getD (elsA (nthA 4 (zabm ns p))) 0 uu)),i0 5] [AV.agg [L5 ns],i0 (Prod.fst (Prod.fst i1)),i0 (Prod.snd (Prod.fst i1))]/\hpL []=hpL [])/\decide (2+ByteArray.size (Prod.snd i1)<=9223372036854775807)=true/\∃ (i2:NV),(True/\Wks (zagu ns p) [AV.agg [i0 (NV.k i2),i0 (NV.a i2),i0 (NV.m i2),s0 (NV.t i2),L1 (NV.ks i2)]]/\hpL []=hpL [])/\(decide ((↑(levelK (NV.k i2)):Int)+1<tg)=true->decide (1+ByteArray.size (bCC++Prod.snd i1)<=9223372036854775807)=true/\decide (ByteArray.size (⟨⟨[(40:UInt8)]⟩⟩++(bCC++Prod.snd i1))+1<=9223372036854775807)=true/\Wk (s0 (⟨⟨[(40:UInt8)]⟩⟩++(bCC++Prod.snd i1)++⟨⟨[(41:UInt8)]⟩⟩)) (s0 r)/\S0)/\(decide ((↑(levelK (NV.k i2)):Int)+1<tg)=false->Wk (s0 (bCC++Prod.snd i1)) (s0 r)/\S0)):=by kernel_rfl
def zaEC:Orc:=HF (Orc.f (Orc.f (Orc.t (Orc.s Orc.z Orc.z))))
theorem zaxY (ns:List AV)(ks:List ((Int × Int) × ByteArray))(p tg:Int)(r:ByteArray):gYP7 zaEC ns ks p tg r=(let z1:=(nthA 0 (zabm ns p));(zag0 p ns ks)=true/\(intA z1==1)=false/\(intA z1==2)=false/\(intA z1==3)=false/\(intA z1==4)=false/\(intA z1==5)=false/\(intA z1==6)=false/\(intA z1==7)=true/\(zahZ ns p ks)=true/\∃ (i1:(Int × Int) × ByteArray),(i1∈ks/\Wks [AV.agg [L5 ns],i0 (intA (List.getD (elsA (nthA 4 (zabm ns p))) 0 uu)),i0 5] [AV.agg [L5 ns],i0 (Prod.fst (Prod.fst i1)),i0 (Prod.snd (Prod.fst i1))]/\hpL []=hpL [])/\decide (ByteArray.size (Prod.snd i1)+2<=9223372036854775807)=true/\∃ (i2:NV),(True/\Wks (zagu ns p) [AV.agg [i0 (NV.k i2),i0 (NV.a i2),i0 (NV.m i2),s0 (NV.t i2),L1 (NV.ks i2)]]/\hpL []=hpL [])/\(decide ((↑(levelK (NV.k i2)):Int)+1<tg)=true->decide (1+ByteArray.size (Prod.snd i1++bCC)<=9223372036854775807)=true/\decide (ByteArray.size (⟨⟨[(40:UInt8)]⟩⟩++(Prod.snd i1++bCC))+1<=9223372036854775807)=true/\Wk (s0 (⟨⟨[(40:UInt8)]⟩⟩++(Prod.snd i1++bCC)++⟨⟨[(41:UInt8)]⟩⟩)) (s0 r)/\S0)/\(decide ((↑(levelK (NV.k i2)):Int)+1<tg)=false->Wk (s0 (Prod.snd i1++bCC)) (s0 r)/\S0)):=by kernel_rfl
def zaEB:Orc:=HF (Orc.f (Orc.f (Orc.f (Orc.t (Orc.s Orc.z Orc.z)))))
theorem zaxW (ns:List AV)(ks:List ((Int × Int) × ByteArray))(p tg:Int)(r:ByteArray):gYP8 zaEB ns ks p tg r=(let z1:=(nthA 0 (zabm ns p));let z2:=AV.agg [L5 ns];(zag0 p ns ks)=true/\(intA z1==1)=false/\(intA z1==2)=false/\(intA z1==3)=false/\(intA z1==4)=false/\(intA z1==5)=false/\(intA z1==6)=false/\(intA z1==7)=false/\(intA z1==8)=true/\(zahZ ns p ks)=true/\∃ (i1:(Int × Int) × ByteArray),(i1∈ks/\Wks [z2,i0 (intA (List.getD (elsA (nthA 4 (zabm ns p))) 0 uu)),i0 5] [z2,i0 (Prod.fst (Prod.fst i1)),i0 (Prod.snd (Prod.fst i1))]/\hpL []=hpL [])/\decide (ByteArray.size (Prod.snd i1)+2<=9223372036854775807)=true/\(zanp ns p ks)=true/\∃ (i2:(Int × Int) × ByteArray),(i2∈ks/\Wks [z2,i0 (intA (List.getD (elsA (nthA 4 (zabm ns p))) 1 uu)),i0 5] [z2,i0 (Prod.fst (Prod.fst i2)),i0 (Prod.snd (Prod.fst i2))]/\hpL []=hpL [])/\decide (ByteArray.size (Prod.snd i1++bCC)+ByteArray.size (Prod.snd i2)<=9223372036854775807)=true/\∃ (i3:NV),(zakC ns p i3)/\(decide ((↑(levelK (NV.k i3)):Int)+1<tg)=true->decide (1+ByteArray.size (Prod.snd i1++bCC++Prod.snd i2)<=9223372036854775807)=true/\decide (ByteArray.size (⟨⟨[(40:UInt8)]⟩⟩++(Prod.snd i1++bCC++Prod.snd i2))+1<=9223372036854775807)=true/\Wk (s0 (⟨⟨[(40:UInt8)]⟩⟩++(Prod.snd i1++bCC++Prod.snd i2)++⟨⟨[(41:UInt8)]⟩⟩)) (s0 r)/\S0)/\(decide ((↑(levelK (NV.k i3)):Int)+1<tg)=false->Wk (s0 (Prod.snd i1++bCC++Prod.snd i2)) (s0 r)/\S0)):=by kernel_rfl
def zaEA:Orc:=HF (HF (Orc.t (Orc.s Orc.z Orc.z)))
theorem zaxU (ns:List AV)(ks:List ((Int × Int) × ByteArray))(p tg:Int)(r:ByteArray):gYP9 zaEA ns ks p tg r=(let z1:=(nthA 0 (zabm ns p));let z2:=AV.agg [L5 ns];(zag0 p ns ks)=true/\(intA z1==1)=false/\(intA z1==2)=false/\(intA z1==3)=false/\(intA z1==4)=false/\(intA z1==5)=false/\(intA z1==6)=false/\(intA z1==7)=false/\(intA z1==8)=false/\(intA z1==9)=true/\(zahZ ns p ks)=true/\∃ (i1:(Int × Int) × ByteArray),(i1∈ks/\Wks [z2,i0 (intA (List.getD (elsA (nthA 4 (zabm ns p))) 0 uu)),i0 5] [z2,i0 (Prod.fst (Prod.fst i1)),i0 (Prod.snd (Prod.fst i1))]/\hpL []=hpL [])/\decide (ByteArray.size (Prod.snd i1)+2<=9223372036854775807)=true/\(zanp ns p ks)=true/\∃ (i2:(Int × Int) × ByteArray),(i2∈ks/\Wks [z2,i0 (intA (List.getD (elsA (nthA 4 (zabm ns p))) 1 uu)),i0 5] [z2,i0 (Prod.fst (Prod.fst i2)),i0 (Prod.snd (Prod.fst i2))]/\hpL []=hpL [])/\decide (ByteArray.size (Prod.snd i1++bDD)+ByteArray.size (Prod.snd i2)<=9223372036854775807)=true/\∃ (i3:NV),(zakC ns p i3)/\(decide ((↑(levelK (NV.k i3)):Int)+1<tg)=true->decide (1+ByteArray.size (Prod.snd i1++bDD++Prod.snd i2)<=9223372036854775807)=true/\decide (ByteArray.size (⟨⟨[(40:UInt8)]⟩⟩++(Prod.snd i1++bDD++Prod.snd i2))+1<=9223372036854775807)=true/\Wk (s0 (⟨⟨[(40:UInt8)]⟩⟩++(Prod.snd i1++bDD++Prod.snd i2)++⟨⟨[(41:UInt8)]⟩⟩)) (s0 r)/\S0)/\(decide ((↑(levelK (NV.k i3)):Int)+1<tg)=false->Wk (s0 (Prod.snd i1++bDD++Prod.snd i2)) (s0 r)/\S0)):=by kernel_rfl
def zaEz:Orc:=HF (HF (Orc.f (Orc.f (Orc.f (Orc.s Orc.z Orc.z)))))
theorem zaxS (ns:List AV)(ks:List ((Int × Int) × ByteArray))(p tg:Int)(t:ByteArray)(ar m:Int)(d r:ByteArray):gYPA zaEz ns ks p tg t ar m d r=(let z1:=(strA (nthA 3 (zabm ns p))++⟨⟨[(40:UInt8)]⟩⟩++⟨⟨[(41:UInt8)]⟩⟩);let z2:=(nthA 0 (zabm ns p));let z3:=(nthA 3 (zabm ns p));(decide ((0:Int)<=p/\p<(↑(List.length ns):Int))&&(Nat.beq 5 5&&(zaaF (Cx.B (cxV (XYC ns ks t ar m false d) 12 fYPr)) shN 33 (zabm ns p)&&(true||false))))=true/\(intA z2==1)=false/\(intA z2==2)=false/\(intA z2==3)=false/\(intA z2==4)=false/\(intA z2==5)=false/\(intA z2==6)=false/\(intA z2==7)=false/\(intA z2==8)=false/\(intA z2==9)=false/\decide (ByteArray.size (strA z3)+1<=9223372036854775807)=true/\decide ((↑(List.length (elsA (nthA 4 (zabm ns p)))):Int)>0)=false/\∃ (_:Unit),(True/\Wks [s0 (strA z3)] [s0 t]/\hpL []=hpL [])/\Nf (decide (ByteArray.size (strA z3++⟨⟨[(40:UInt8)]⟩⟩)+1<=9223372036854775807)=true/\∃ (i2:NV),(True/\Wks (zagu ns p) [AV.agg [i0 (NV.k i2),i0 (NV.a i2),i0 (NV.m i2),s0 (NV.t i2),L1 (NV.ks i2)]]/\hpL []=hpL [])/\(decide ((↑(levelK (NV.k i2)):Int)+1<tg)=true->decide (1+ByteArray.size z1<=9223372036854775807)=true/\decide (ByteArray.size (⟨⟨[(40:UInt8)]⟩⟩++z1)+1<=9223372036854775807)=true/\Wk (s0 (⟨⟨[(40:UInt8)]⟩⟩++z1++⟨⟨[(41:UInt8)]⟩⟩)) (s0 r)/\S0)/\(decide ((↑(levelK (NV.k i2)):Int)+1<tg)=false->Wk (s0 z1) (s0 r)/\S0))):=by kernel_rfl
def zaEy:Orc:=HF (HF (Orc.f (Orc.t (Orc.f (Orc.s Orc.z Orc.z)))))
theorem zaxQ (ns:List AV)(ks:List ((Int × Int) × ByteArray))(p tg:Int)(t:ByteArray)(ar m:Int)(d r:ByteArray):gYPB zaEy ns ks p tg t ar m d r=(let z1:=(nthA 0 (zabm ns p));let z2:=(nthA 3 (zabm ns p));let z3:=(elsA (nthA 4 (zabm ns p)));let z4:=[(40:UInt8)];let z5:=(Cx.B (cxV (XYC ns ks t ar m false d) 12 fYPr));let z6:=[(41:UInt8)];(decide ((0:Int)<=p/\p<(↑(List.length ns):Int))&&(Nat.beq 5 5&&(zaaF z5 shN 33 (zabm ns p)&&(true||false))))=true/\(intA z1==1)=false/\(intA z1==2)=false/\(intA z1==3)=false/\(intA z1==4)=false/\(intA z1==5)=false/\(intA z1==6)=false/\(intA z1==7)=false/\(intA z1==8)=false/\(intA z1==9)=false/\decide (ByteArray.size (strA z2)+1<=9223372036854775807)=true/\decide ((↑(List.length z3):Int)>0)=true/\(decide ((0:Int)<=(0:Int)/\(0:Int)<(↑(List.length z3):Int))&&(Nat.beq 1 1&&(zaaF z5 shN 3 (List.getD z3 0 uu)&&(false||true))))=true/\∃ (i1:(Int × Int) × ByteArray),(i1∈ks/\Wks [AV.agg [L5 ns],i0 (intA (List.getD z3 0 uu)),i0 1] [AV.agg [L5 ns],i0 (Prod.fst (Prod.fst i1)),i0 (Prod.snd (Prod.fst i1))]/\hpL []=hpL [])/\decide (ByteArray.size (strA z2++⟨⟨z4⟩⟩)+ByteArray.size (Prod.snd i1)<=9223372036854775807)=true/\∃ (_:Unit),(True/\Wks [s0 (strA z2)] [s0 t]/\hpL []=hpL [])/\Nf (decide (ByteArray.size (strA z2++⟨⟨z4⟩⟩++Prod.snd i1)+1<=9223372036854775807)=true/\∃ (i3:NV),(zakC ns p i3)/\(decide ((↑(levelK (NV.k i3)):Int)+1<tg)=true->decide (1+ByteArray.size (strA z2++⟨⟨z4⟩⟩++Prod.snd i1++⟨⟨z6⟩⟩)<=9223372036854775807)=true/\decide (ByteArray.size (⟨⟨z4⟩⟩++(strA z2++⟨⟨z4⟩⟩++Prod.snd i1++⟨⟨z6⟩⟩))+1<=9223372036854775807)=true/\Wk (s0 (⟨⟨z4⟩⟩++(strA z2++⟨⟨z4⟩⟩++Prod.snd i1++⟨⟨z6⟩⟩)++⟨⟨z6⟩⟩)) (s0 r)/\S0)/\(decide ((↑(levelK (NV.k i3)):Int)+1<tg)=false->Wk (s0 (strA z2++⟨⟨z4⟩⟩++Prod.snd i1++⟨⟨z6⟩⟩)) (s0 r)/\S0))):=by kernel_rfl
def zaEx:Orc:=HF (HF (Orc.f (Orc.t (Orc.t (Orc.s Orc.z Orc.z)))))
theorem zaxO (ns:List AV)(ks:List ((Int × Int) × ByteArray))(p tg:Int)(t:ByteArray)(ar m:Int)(d r:ByteArray):gYPC zaEx ns ks p tg t ar m d r=(let z1:=(nthA 3 (zabm ns p));let z2:=(nthA 0 (zabm ns p));let z3:=[(40:UInt8)];let z4:=(elsA (nthA 4 (zabm ns p)));let z5:=[(44:UInt8)];let z6:=(Cx.B (cxV (XYC ns ks t ar m true d) 12 fYPr));let z7:=[(41:UInt8)];(decide ((0:Int)<=p/\p<(↑(List.length ns):Int))&&(Nat.beq 5 5&&(zaaF z6 shN 33 (zabm ns p)&&(true||false))))=true/\(intA z2==1)=false/\(intA z2==2)=false/\(intA z2==3)=false/\(intA z2==4)=false/\(intA z2==5)=false/\(intA z2==6)=false/\(intA z2==7)=false/\(intA z2==8)=false/\(intA z2==9)=false/\decide (ByteArray.size (strA z1)+1<=9223372036854775807)=true/\decide ((↑(List.length z4):Int)>0)=true/\(decide ((0:Int)<=(0:Int)/\(0:Int)<(↑(List.length z4):Int))&&(Nat.beq 1 1&&(zaaF z6 shN 3 (List.getD z4 0 uu)&&(false||true))))=true/\∃ (i1:(Int × Int) × ByteArray),(i1∈ks/\Wks [AV.agg [L5 ns],i0 (intA (List.getD z4 0 uu)),i0 1] [AV.agg [L5 ns],i0 (Prod.fst (Prod.fst i1)),i0 (Prod.snd (Prod.fst i1))]/\hpL []=hpL [])/\decide (ByteArray.size (strA z1++⟨⟨z3⟩⟩)+ByteArray.size (Prod.snd i1)<=9223372036854775807)=true/\∃ (_:Unit),(True/\Wks [s0 (strA z1)] [s0 t]/\hpL []=hpL [])/\Yt (decide (ByteArray.size (strA z1++⟨⟨z3⟩⟩++Prod.snd i1)+1<=9223372036854775807)=true/\∃ (_:Unit),(True/\Wks [i0 (intA (nthA 2 (zabm ns p)))] [i0 m]/\hpL []=hpL [])/\decide (ByteArray.size (strA z1++⟨⟨z3⟩⟩++Prod.snd i1++⟨⟨z5⟩⟩)+ByteArray.size d<=9223372036854775807)=true/\decide (ByteArray.size (strA z1++⟨⟨z3⟩⟩++Prod.snd i1++⟨⟨z5⟩⟩++d)+1<=9223372036854775807)=true/\∃ (i4:NV),(True/\Wks (zagu ns p) [AV.agg [i0 (NV.k i4),i0 (NV.a i4),i0 (NV.m i4),s0 (NV.t i4),L1 (NV.ks i4)]]/\hpL []=hpL [])/\(decide ((↑(levelK (NV.k i4)):Int)+1<tg)=true->decide (1+ByteArray.size (strA z1++⟨⟨z3⟩⟩++Prod.snd i1++⟨⟨z5⟩⟩++d++⟨⟨z7⟩⟩)<=9223372036854775807)=true/\decide (ByteArray.size (⟨⟨z3⟩⟩++(strA z1++⟨⟨z3⟩⟩++Prod.snd i1++⟨⟨z5⟩⟩++d++⟨⟨z7⟩⟩))+1<=9223372036854775807)=true/\Wk (s0 (⟨⟨z3⟩⟩++(strA z1++⟨⟨z3⟩⟩++Prod.snd i1++⟨⟨z5⟩⟩++d++⟨⟨z7⟩⟩)++⟨⟨z7⟩⟩)) (s0 r)/\S0)/\(decide ((↑(levelK (NV.k i4)):Int)+1<tg)=false->Wk (s0 (strA z1++⟨⟨z3⟩⟩++Prod.snd i1++⟨⟨z5⟩⟩++d++⟨⟨z7⟩⟩)) (s0 r)/\S0))):=by kernel_rfl
end Go.Proofs.YtpofhijgccocpaaGreatDoor
end
section
namespace Go.Proofs.YtpofhijgccocpaaGreatDoor
open Go.AS Go.TP
noncomputable section
theorem zaGP (k a m:Int)(t:ByteArray)(vs:List AV):zaaF (Cx.B (cxV XB 12 fYPr)) shN 33 (rgV k a m t vs)=true:=by kernel_rfl
theorem zaGQ (b:Int):zaaF (Cx.B (cxV XB 12 fYPr)) shN 3 (i0 b)=true:=by kernel_rfl
def YB (k tg:Int)(s:ByteArray):ByteArray:=if (levelK k:Int)+1<tg then ⟨#[40]⟩++s++⟨#[41]⟩ else s
theorem ybT {k tg:Int}{s:ByteArray}(h:decide ((levelK k:Int)+1<tg)=true):Wk (s0 (⟨#[40]⟩++s++⟨#[41]⟩)) (s0 (YB k tg s)):=by rw [YB,if_pos (of_decide_eq_true h)];exact .refl _
theorem ybF {k tg:Int}{s:ByteArray}(h:decide ((levelK k:Int)+1<tg)=false):Wk (s0 s) (s0 (YB k tg s)):=by rw [YB,if_neg (of_decide_eq_false h)];exact .refl _
theorem ys0 {s:ByteArray}(h:s.size<=2000000):decide (1+s.size<=9223372036854775807)=true:=decide_eq_true (by omega)
theorem ys1 {s:ByteArray}(h:s.size<=2000000):decide ((⟨#[40]⟩++s:ByteArray).size+1<=9223372036854775807)=true:=decide_eq_true (by
 rw [ByteArray.size_append];show 1+s.size+1<=_;omega)
theorem ys {a b:Nat}(h:a+b<=9223372036854775807):decide (a+b<=9223372036854775807)=true:=decide_eq_true h
structure RkT (l:List RN) (p:Nat) (k a m:Int) (t:ByteArray) (kk:List Nat):Prop where
 e:(l.map xE).getD (p:Int).toNat (AV.lit (Value.tuple ⟨[]⟩))=rgV k a m t (kk.map fun j:Nat=>i0 (j:Int))
 l2:(p:Int)<((l.map xE).length:Int)
section
variable {l:List RN} {p:Nat} {k a m:Int} {t:ByteArray} {kk:List Nat}
theorem RkT.y2 (h:RkT l p k a m t kk):∀ B:Tb,B=Cx.B (cxV XB 12 fYPr)->(decide ((0:Int)<=p/\(p:Int)<((l.map xE).length:Int))&&(Nat.beq 5 5&&(zaaF B shN 33 (rgV k a m t (kk.map fun j:Nat=>i0 (j:Int)))&&(true||false))))=true:=by
 intro B hB;subst hB
 rw [zaGP,decide_eq_true ⟨by omega,h.l2⟩];rfl
theorem yc (b:Int):(true&&(true&&(zaaF (Cx.B (cxV XB 12 fYPr)) shN 3 (i0 b)&&true)))=true:=by rw [zaGQ];rfl
theorem zaya (H:RkT l p 1 a m t [])(hs:(t).size<=2000000)(tg:Int):gYP1 (Orc.t (Orc.s Orc.z Orc.z)) (l.map xE) [] p tg (YB 1 tg (t)):=by
 rw [zay];delta zabm zagu zag0
 try dsimp only
 rw [H.e]
 exact ⟨H.y2 _ rfl,rfl,⟨1,a,m,t,_⟩,⟨trivial,.refl _,rfl⟩,fun h0=>⟨ys0 hs,ys1 hs,ybT h0,.rfl⟩,fun h0=>⟨ybF h0,.rfl⟩⟩
theorem zax9 {b c:Nat}{x y:ByteArray}(H:RkT l p 2 a m t [b,c])(hs:(x++⟨#[43]⟩++y).size<=2000000)(tg:Int):gYP2 zaEH (l.map xE) [(((b:Int),1),x),(((c:Int),2),y)] p tg (YB 2 tg (x++⟨#[43]⟩++y)):=by
 rw [zax8];delta zabm zagu zahZ zag0 zanp zakC
 try dsimp only
 rw [H.e]
 exact ⟨H.y2 _ rfl,rfl,rfl,yc _,⟨(b,1),x⟩,⟨.head _,.refl _,rfl⟩,ys (by show x.size+_<=_;simp only [ByteArray.size_append] at hs;omega),yc _,⟨(c,2),y⟩,⟨.tail _ (.head _),.refl _,rfl⟩,ys (by show (x++⟨#[43]⟩).size+_<=_;simp only [ByteArray.size_append] at hs ⊢;omega),⟨2,a,m,t,_⟩,⟨trivial,.refl _,rfl⟩,fun h0=>⟨ys0 hs,ys1 hs,ybT h0,.rfl⟩,fun h0=>⟨ybF h0,.rfl⟩⟩
theorem zax7 {b c:Nat}{x y:ByteArray}(H:RkT l p 3 a m t [b,c])(hs:(x++⟨#[45]⟩++y).size<=2000000)(tg:Int):gYP3 zaEG (l.map xE) [(((b:Int),1),x),(((c:Int),2),y)] p tg (YB 3 tg (x++⟨#[45]⟩++y)):=by
 rw [zax6];delta zabm zagu zahZ zag0 zanp zakC
 try dsimp only
 rw [H.e]
 exact ⟨H.y2 _ rfl,rfl,rfl,rfl,yc _,⟨(b,1),x⟩,⟨.head _,.refl _,rfl⟩,ys (by show x.size+_<=_;simp only [ByteArray.size_append] at hs;omega),yc _,⟨(c,2),y⟩,⟨.tail _ (.head _),.refl _,rfl⟩,ys (by show (x++⟨#[45]⟩).size+_<=_;simp only [ByteArray.size_append] at hs ⊢;omega),⟨3,a,m,t,_⟩,⟨trivial,.refl _,rfl⟩,fun h0=>⟨ys0 hs,ys1 hs,ybT h0,.rfl⟩,fun h0=>⟨ybF h0,.rfl⟩⟩
theorem zax5 {b c:Nat}{x y:ByteArray}(H:RkT l p 4 a m t [b,c])(hs:(x++⟨#[38]⟩++y).size<=2000000)(tg:Int):gYP4 zaEF (l.map xE) [(((b:Int),2),x),(((c:Int),3),y)] p tg (YB 4 tg (x++⟨#[38]⟩++y)):=by
 rw [zax4];delta zabm zagu zahZ zag0 zanp zakC
 try dsimp only
 rw [H.e]
 exact ⟨H.y2 _ rfl,rfl,rfl,rfl,rfl,yc _,⟨(b,2),x⟩,⟨.head _,.refl _,rfl⟩,ys (by show x.size+_<=_;simp only [ByteArray.size_append] at hs;omega),yc _,⟨(c,3),y⟩,⟨.tail _ (.head _),.refl _,rfl⟩,ys (by show (x++⟨#[38]⟩).size+_<=_;simp only [ByteArray.size_append] at hs ⊢;omega),⟨4,a,m,t,_⟩,⟨trivial,.refl _,rfl⟩,fun h0=>⟨ys0 hs,ys1 hs,ybT h0,.rfl⟩,fun h0=>⟨ybF h0,.rfl⟩⟩
theorem zaxX {b c:Nat}{x y:ByteArray}(H:RkT l p 8 a m t [b,c])(hs:(x++⟨#[58,58]⟩++y).size<=2000000)(tg:Int):gYP8 zaEB (l.map xE) [(((b:Int),5),x),(((c:Int),5),y)] p tg (YB 8 tg (x++⟨#[58,58]⟩++y)):=by
 rw [zaxW];delta zabm zagu zahZ zag0 zanp zakC
 try dsimp only
 rw [H.e]
 exact ⟨H.y2 _ rfl,rfl,rfl,rfl,rfl,rfl,rfl,rfl,rfl,yc _,⟨(b,5),x⟩,⟨.head _,.refl _,rfl⟩,ys (by show x.size+_<=_;simp only [ByteArray.size_append] at hs;omega),yc _,⟨(c,5),y⟩,⟨.tail _ (.head _),.refl _,rfl⟩,ys (by show (x++⟨#[58,58]⟩).size+_<=_;simp only [ByteArray.size_append] at hs ⊢;omega),⟨8,a,m,t,_⟩,⟨trivial,.refl _,rfl⟩,fun h0=>⟨ys0 hs,ys1 hs,ybT h0,.rfl⟩,fun h0=>⟨ybF h0,.rfl⟩⟩
theorem zaxV {b c:Nat}{x y:ByteArray}(H:RkT l p 9 a m t [b,c])(hs:(x++⟨#[46,46]⟩++y).size<=2000000)(tg:Int):gYP9 zaEA (l.map xE) [(((b:Int),5),x),(((c:Int),5),y)] p tg (YB 9 tg (x++⟨#[46,46]⟩++y)):=by
 rw [zaxU];delta zabm zagu zahZ zag0 zanp zakC
 try dsimp only
 rw [H.e]
 exact ⟨H.y2 _ rfl,rfl,rfl,rfl,rfl,rfl,rfl,rfl,rfl,rfl,yc _,⟨(b,5),x⟩,⟨.head _,.refl _,rfl⟩,ys (by show x.size+_<=_;simp only [ByteArray.size_append] at hs;omega),yc _,⟨(c,5),y⟩,⟨.tail _ (.head _),.refl _,rfl⟩,ys (by show (x++⟨#[46,46]⟩).size+_<=_;simp only [ByteArray.size_append] at hs ⊢;omega),⟨9,a,m,t,_⟩,⟨trivial,.refl _,rfl⟩,fun h0=>⟨ys0 hs,ys1 hs,ybT h0,.rfl⟩,fun h0=>⟨ybF h0,.rfl⟩⟩
theorem zax3 {b:Nat}{x:ByteArray}(H:RkT l p 5 a m t [b])(hs:(⟨#[33]⟩++x).size<=2000000)(tg:Int):gYP5 zaEE (l.map xE) [(((b:Int),3),x)] p tg (YB 5 tg (⟨#[33]⟩++x)):=by
 rw [zax2];delta zabm zagu zahZ zag0
 try dsimp only
 rw [H.e]
 exact ⟨H.y2 _ rfl,rfl,rfl,rfl,rfl,rfl,yc _,⟨(b,3),x⟩,⟨.head _,.refl _,rfl⟩,ys (by show _+x.size<=_;simp only [ByteArray.size_append] at hs;omega),⟨5,a,m,t,_⟩,⟨trivial,.refl _,rfl⟩,fun h0=>⟨ys0 hs,ys1 hs,ybT h0,.rfl⟩,fun h0=>⟨ybF h0,.rfl⟩⟩
theorem zax1 {b:Nat}{x:ByteArray}(H:RkT l p 6 a m t [b])(hs:(⟨#[58,58]⟩++x).size<=2000000)(tg:Int):gYP6 zaED (l.map xE) [(((b:Int),5),x)] p tg (YB 6 tg (⟨#[58,58]⟩++x)):=by
 rw [zax0];delta zabm zagu zahZ zag0
 try dsimp only
 rw [H.e]
 exact ⟨H.y2 _ rfl,rfl,rfl,rfl,rfl,rfl,rfl,yc _,⟨(b,5),x⟩,⟨.head _,.refl _,rfl⟩,ys (by show _+x.size<=_;simp only [ByteArray.size_append] at hs;omega),⟨6,a,m,t,_⟩,⟨trivial,.refl _,rfl⟩,fun h0=>⟨ys0 hs,ys1 hs,ybT h0,.rfl⟩,fun h0=>⟨ybF h0,.rfl⟩⟩
theorem zaxZ {b:Nat}{x:ByteArray}(H:RkT l p 7 a m t [b])(hs:(x++⟨#[58,58]⟩).size<=2000000)(tg:Int):gYP7 zaEC (l.map xE) [(((b:Int),5),x)] p tg (YB 7 tg (x++⟨#[58,58]⟩)):=by
 rw [zaxY];delta zabm zagu zahZ zag0
 try dsimp only
 rw [H.e]
 exact ⟨H.y2 _ rfl,rfl,rfl,rfl,rfl,rfl,rfl,rfl,yc _,⟨(b,5),x⟩,⟨.head _,.refl _,rfl⟩,ys (by show x.size+_<=_;simp only [ByteArray.size_append] at hs;omega),⟨7,a,m,t,_⟩,⟨trivial,.refl _,rfl⟩,fun h0=>⟨ys0 hs,ys1 hs,ybT h0,.rfl⟩,fun h0=>⟨ybF h0,.rfl⟩⟩
theorem zaxT {ar:Int}{d:ByteArray}(H:RkT l p 10 a m t [])(hs:(t++⟨#[40]⟩++⟨#[41]⟩).size<=2000000)(tg:Int):gYPA zaEz (l.map xE) [] p tg t ar m d (YB 10 tg (t++⟨#[40]⟩++⟨#[41]⟩)):=by
 rw [zaxS];delta zabm zagu
 try dsimp only
 rw [H.e]
 exact ⟨H.y2 _ rfl,rfl,rfl,rfl,rfl,rfl,rfl,rfl,rfl,rfl,ys (by show t.size+_<=_;simp only [ByteArray.size_append] at hs;omega),rfl,(),⟨trivial,.refl _,rfl⟩,rfl,ys (by show (t++⟨#[40]⟩).size+_<=_;simp only [ByteArray.size_append] at hs ⊢;omega),⟨10,a,m,t,_⟩,⟨trivial,.refl _,rfl⟩,fun h0=>⟨ys0 hs,ys1 hs,ybT h0,.rfl⟩,fun h0=>⟨ybF h0,.rfl⟩⟩
theorem zaxR {b:Nat}{x:ByteArray}{ar:Int}{d:ByteArray}(H:RkT l p 10 a m t [b])(hs:(t++⟨#[40]⟩++x++⟨#[41]⟩).size<=2000000)(tg:Int):gYPB zaEy (l.map xE) [(((b:Int),1),x)] p tg t ar m d (YB 10 tg (t++⟨#[40]⟩++x++⟨#[41]⟩)):=by
 rw [zaxQ];delta zabm zagu zakC
 try dsimp only
 rw [H.e]
 exact ⟨H.y2 _ rfl,rfl,rfl,rfl,rfl,rfl,rfl,rfl,rfl,rfl,ys (by show t.size+_<=_;simp only [ByteArray.size_append] at hs;omega),rfl,yc _,⟨(b,1),x⟩,⟨.head _,.refl _,rfl⟩,ys (by show (t++⟨#[40]⟩).size+_<=_;simp only [ByteArray.size_append] at hs ⊢;omega),(),⟨trivial,.refl _,rfl⟩,rfl,ys (by show (t++⟨#[40]⟩++x).size+_<=_;simp only [ByteArray.size_append] at hs ⊢;omega),⟨10,a,m,t,_⟩,⟨trivial,.refl _,rfl⟩,fun h0=>⟨ys0 hs,ys1 hs,ybT h0,.rfl⟩,fun h0=>⟨ybF h0,.rfl⟩⟩
theorem zaxP {b:Nat}{x:ByteArray}{ar:Int}{d:ByteArray}(H:RkT l p 10 a m t [b])(hs:(t++⟨#[40]⟩++x++⟨#[44]⟩++d++⟨#[41]⟩).size<=2000000)(tg:Int):gYPC zaEx (l.map xE) [(((b:Int),1),x)] p tg t ar m d (YB 10 tg (t++⟨#[40]⟩++x++⟨#[44]⟩++d++⟨#[41]⟩)):=by
 rw [zaxO];delta zabm zagu
 try dsimp only
 rw [H.e]
 exact ⟨H.y2 _ rfl,rfl,rfl,rfl,rfl,rfl,rfl,rfl,rfl,rfl,ys (by show t.size+_<=_;simp only [ByteArray.size_append] at hs;omega),rfl,yc _,⟨(b,1),x⟩,⟨.head _,.refl _,rfl⟩,ys (by show (t++⟨#[40]⟩).size+_<=_;simp only [ByteArray.size_append] at hs ⊢;omega),(),⟨trivial,.refl _,rfl⟩,rfl,ys (by show (t++⟨#[40]⟩++x).size+_<=_;simp only [ByteArray.size_append] at hs ⊢;omega),(),⟨trivial,.refl _,rfl⟩,ys (by show (t++⟨#[40]⟩++x++⟨#[44]⟩).size+_<=_;simp only [ByteArray.size_append] at hs ⊢;omega),ys (by show (t++⟨#[40]⟩++x++⟨#[44]⟩++d).size+_<=_;simp only [ByteArray.size_append] at hs ⊢;omega),⟨10,a,m,t,_⟩,⟨trivial,.refl _,rfl⟩,fun h0=>⟨ys0 hs,ys1 hs,ybT h0,.rfl⟩,fun h0=>⟨ybF h0,.rfl⟩⟩
end
end
end Go.Proofs.YtpofhijgccocpaaGreatDoor
end
section
namespace Go.Proofs.YtpofhijgccocpaaGreatDoor
open Go.AS Go.TP
noncomputable section
variable {d:Int} {n:Nat}
theorem zaFD (h:0<=d/\d<=2000000):inR IntKind.i64 (48+d)=true:=zaag (by omega) (by omega)
theorem zaCx (h:0<=d/\d<=2000000):inR IntKind.i64 d=true:=zaag (by omega) (by omega)
theorem zau8 (h0:0<=d)(h1:d<10):UInt8.ofNat (Int.toNat (IntKind.wrap IntKind.u8 (48+d)))=UInt8.ofNat (48+d.toNat):=by
 obtain ⟨n,rfl⟩:=Int.eq_ofNat_of_zero_le h0
 have h:n<10:=by omega
 match n,h with
 | 0,_=>rfl
 | 1,_=>rfl
 | 2,_=>rfl
 | 3,_=>rfl
 | 4,_=>rfl
 | 5,_=>rfl
 | 6,_=>rfl
 | 7,_=>rfl
 | 8,_=>rfl
 | 9,_=>rfl
theorem zaxB (h:n<10):zaeh (n:Int)=⟨⟨[UInt8.ofNat (48+n)]⟩⟩:=by simp_all [zaeh,zagB,Int.toNat_natCast,Lib.decDigits,dif_pos]
theorem zaxC (h:¬n<10):zaeh (n:Int)=zaeh ((n / 10:Nat):Int)++⟨⟨[UInt8.ofNat (48+n % 10)]⟩⟩:=by
 unfold zaeh;rw [zagB (by omega),zagB (by omega),Int.toNat_natCast,Int.toNat_natCast,Lib.decDigits,dif_neg h]
 exact ByteArray.ext (by rw [ByteArray.data_append];simp)
theorem zaqF (h:n<=999999):(zaeh (n:Int)).size<=6:=by
 unfold zaeh;rw [zagB (by omega),Int.toNat_natCast]
 have:=zaqU 5 n (by omega)
 exact this
attribute [local irreducible] runF in
theorem zauk:∀ (n:Nat),n<=999999->F zaqS [i0 (n:Int)] (s0 (zaeh (n:Int))):=by
 intro n
 induction n using Nat.strongRecOn with
 | ind n ih =>
  intro hn
  by_cases h:n<10
  · refine F_ok zaaR rfl (by kernel_rfl) (by kernel_rfl) (by kernel_rfl) (show gYD1 (Orc.t Orc.z) n (zaeh (n:Int)) from ?_)
    rw [zayc]
    refine ⟨decide_eq_true (by omega),zaFD (by omega),rfl,rfl,.of_eq ?_,.rfl⟩
    rw [zau8 (by omega) (by omega),zaxB h];rfl
  · have h1:=ih (n / 10) (by omega) (by omega)
    have hs:=zaqF (n:=n / 10) (by omega)
    have e1:Int.tdiv (n:Int) 10=((n / 10:Nat):Int):=by rw [Int.tdiv_eq_ediv_of_nonneg (by omega)];omega
    have e2:Int.tmod (n:Int) 10=((n % 10:Nat):Int):=by rw [Int.tmod_eq_emod_of_nonneg (by omega)];omega
    refine F_ok (zaaR.add (zanD h1)) rfl (by kernel_rfl) (by kernel_rfl) (by kernel_rfl) (show gYD2 (Orc.f Orc.z) n ((n / 10:Nat):Int) (zaeh ((n / 10:Nat):Int)) (zaeh (n:Int)) from ?_)
    rw [zayb,e1,e2]
    refine ⟨decide_eq_false (by omega),by rw [zaCx (by omega)];rfl,(),⟨trivial,.refl _,rfl⟩,rfl,zaFD (by omega),rfl,rfl,decide_eq_true ?_,.of_eq ?_,.rfl⟩
    · show _+1<=_;omega
    · rw [zau8 (by omega) (by omega),zaxC h];rfl
theorem zaCD (k a m:Int)(t:ByteArray)(vs:List AV):gYL ogYL k a m t vs ((levelK k:Int)+1):=by
 rw [zaCC]
 have e:∀ (c:Nat),levelK k=c->Wk (AV.lit (.int .i64 ((c:Int)+1))) (AV.lit (.int .i64 ((levelK k:Int)+1)))/\SameH (hpL []) (hpL []):=fun c h=>by rw [h];exact ⟨.refl _,.rfl⟩
 refine ⟨fun h=>⟨rfl,e 0 (by rw [eqT h];rfl)⟩,fun h1=>⟨fun h=>e 0 (by rw [eqT h];rfl),fun h2=>⟨fun h=>e 1 (by rw [eqT h];rfl),fun h3=>⟨fun h=>e 2 (by rw [eqT h];rfl),fun h4=>⟨fun h=>⟨rfl,e 3 (by rw [eqT h];rfl)⟩,fun h5=>⟨fun h=>⟨rfl,e 3 (by rw [eqT h];rfl)⟩,fun h6=>⟨fun h=>⟨rfl,e 3 (by rw [eqT h];rfl)⟩,fun h7=>⟨fun h=>e 3 (by rw [eqT h];rfl),fun h8=>e 4 ?_⟩⟩⟩⟩⟩⟩⟩⟩
 have h1:=eqF h1
 have h2:=eqF h2
 have h3:=eqF h3
 have h4:=eqF h4
 have h5:=eqF h5
 have h6:=eqF h6
 have h7:=eqF h7
 have h8:=eqF h8
 unfold levelK
 rw [if_neg (by omega),if_neg h3,if_neg h4,if_neg (by omega)]
attribute [local irreducible] runF in
theorem zauX (k a m:Int)(t:ByteArray)(vs:List AV):F zaBE [rgV k a m t vs] (i0 ((levelK k:Int)+1)):=F_ok zaaR rfl (by kernel_rfl) (by kernel_rfl) (by kernel_rfl) (zaCD k a m t vs)
abbrev YpOk (l:List RN)(p:Nat)(tg:Int)(r:ByteArray):Prop:=FOk Tryz.prog gl0 fYPr [zadO (l.map xE),i0 (p:Int),i0 tg] .nil ⟨s0 r,.nil,[]⟩
attribute [local irreducible] runF in
theorem ypFn {X:WX}(hX:X.Sound)(hp:X.px=X0){os:Orc}{l:List RN}{p:Nat}{tg:Int}{r:ByteArray}(g:gYP X os (l.map xE) p tg r):YpOk l p tg r:=by
 have hP:X.px.P=Tryz.prog:=by rw [hp];rfl
 have hg:X.px.gl=gl0:=by rw [hp];rfl
 have:=zade (X:=X) (d:=12) hX (f:=fYPr) (fn:=fn fYPr) (code:=code fYPr) (by show X.px.P.funcs[fYPr]?=_;rw [hP];exact fnOk fYPr (by kernel_rfl)) (show (fn fYPr).body=some (code fYPr) by kernel_rfl) (by kernel_rfl) g
 show FOk Tryz.prog gl0 fYPr _ _ _
 rw [<-hg,<-hP];exact this
theorem zafF {ns:List AV}{ks:List ((Int × Int) × ByteArray)}(h:∀ q∈ks,FOk Tryz.prog gl0 fYPr [zadO ns,i0 q.1.1,i0 q.1.2] (.nil) ⟨s0 q.2,.nil,[]⟩):(XYP ns ks).Sound :=
 (((zaaR.add (zabv (s:=spYL) fun v _=>zauX v.k v.a v.m v.t v.ks)).add (Sp.one (s:=spYP ns ks) fun q hq=>h q hq)).ask _).askAt _ _
theorem zauA {ns:List AV}{ks:List ((Int × Int) × ByteArray)}{t d:ByteArray}{ar m:Int}{b:Bool}(h:∀ q∈ks,FOk Tryz.prog gl0 fYPr [zadO ns,i0 q.1.1,i0 q.1.2] (.nil) ⟨s0 q.2,.nil,[]⟩)(ha:zaA4 t = .tup [i0 ar,b0 b])(hd:F zaqS [i0 m] (s0 d)):(XYC ns ks t ar m b d).Sound :=
 ((zafF h).add (zanD (by have:=zaq0 t;rw [ha] at this;exact this))).add (zanD hd)
theorem zadS (n:Nd)(lv:Nat){tg:Int}(h:tg=(lv:Int)+1):zaaJ n lv=YB n.kind tg (zabA n):=by
 subst h
 rw [zaeF,YB]
 by_cases h:levelK n.kind<lv
 · rw [if_pos h,if_pos (by omega)];rfl
 · rw [if_neg h,if_neg (by omega)]
theorem kk0 {l:List Nat}(h:l.length=0):l=[]:=List.eq_nil_of_length_eq_zero h
theorem kk1 {l:List Nat}(h:l.length=1):∃ b,l=[b]:=List.length_eq_one_iff.1 h
theorem kk2:∀ {l:List Nat},l.length=2->∃ b c,l=[b,c]
 | [b,c],_=>⟨b,c,rfl⟩
theorem szLd {a b:ByteArray}{N:Nat}(h:(a++b).size<=N):a.size<=N:=by rw [ByteArray.size_append] at h;omega
theorem szM {a b c:ByteArray}{N:Nat}(h:(a++b++c).size<=N):b.size<=N:=by simp only [ByteArray.size_append] at h;omega
attribute [local irreducible] runF in
theorem zaGB {l:List RN}(n:Nd)(h:zaas n=true):∀ (p lv:Nat) (tg:Int),tg=(lv:Int)+1->Rep l p n->(zabA n).size<=2000000->YpOk l p tg (zaaJ n lv):=by
 refine zagr (P:=fun n=>∀ (p lv:Nat) (tg:Int),tg=(lv:Int)+1->Rep l p n->(zabA n).size<=2000000->YpOk l p tg (zaaJ n lv)) ?_ ?_ ?_ ?_ ?_ n h
 · intro a t _ p lv tg htg hR hs
   obtain ⟨e1,e2⟩:=zahs hR
   obtain ⟨_,_,_,_,_,hkl,_,_⟩:=hR.inv
   rw [kk0 hkl] at e1
   rw [zadS _ _ htg,zanJ];rw [zanJ] at hs
   exact ypFn (zafF (ks:=[]) fun _ hq=>nomatch hq) rfl (zaya ⟨e1,e2⟩ hs tg)
 · intro k a x y hk _ _ hx hy p lv tg htg hR hs
   obtain ⟨e1,e2⟩:=zahs hR
   obtain ⟨_,_,_,_,_,hkl,_,hch⟩:=hR.inv
   obtain ⟨b,c,hbc⟩:=kk2 hkl
   rw [hbc] at e1
   have hb:=hch 0 b x (by rw [hbc];rfl) rfl
   have hc:=hch 1 c y (by rw [hbc];rfl) rfl
   have two:∀ (s:Int) (i j:Nat),zafJ (.mk k a 0 ByteArray.empty [x,y])=atS x i++sg s::atS y j->s≠1->zabA (.mk k a 0 ByteArray.empty [x,y])=zaaJ x i++zarL s++zaaJ y j/\∀ q∈[(((b:Int),(i:Int)+1),zaaJ x i),(((c:Int),(j:Int)+1),zaaJ y j)],FOk Tryz.prog gl0 fYPr [zadO (l.map xE),i0 q.1.1,i0 q.1.2] .nil ⟨s0 q.2,.nil,[]⟩:=fun s i j ht h1=>by
     have e:=zah9 ht h1
     rw [e,ByteArray.size_append,ByteArray.size_append] at hs
     have h1:=zabK x i
     have h2:=zabK y j
     refine ⟨e,fun q hq => ?_⟩
     rcases List.mem_cons.1 hq with rfl|hq
     · exact hx b i _ rfl hb (by omega)
     · rw [List.mem_singleton] at hq;subst hq;exact hy c j _ rfl hc (by omega)
   rw [zadS _ _ htg]
   rcases hk with rfl|rfl|rfl|rfl|rfl
   · obtain ⟨e,hq⟩:=two 7 0 1 rfl (by decide)
     rw [e] at hs ⊢;exact ypFn (zafF hq) rfl (zax9 ⟨e1,e2⟩ hs tg)
   · obtain ⟨e,hq⟩:=two 8 0 1 rfl (by decide)
     rw [e] at hs ⊢;exact ypFn (zafF hq) rfl (zax7 ⟨e1,e2⟩ hs tg)
   · obtain ⟨e,hq⟩:=two 9 1 2 rfl (by decide)
     rw [e] at hs ⊢;exact ypFn (zafF hq) rfl (zax5 ⟨e1,e2⟩ hs tg)
   · obtain ⟨e,hq⟩:=two 5 4 4 rfl (by decide)
     rw [e] at hs ⊢;exact ypFn (zafF hq) rfl (zaxX ⟨e1,e2⟩ hs tg)
   · obtain ⟨e,hq⟩:=two 6 4 4 rfl (by decide)
     rw [e] at hs ⊢;exact ypFn (zafF hq) rfl (zaxV ⟨e1,e2⟩ hs tg)
 · intro k a x hk _ hx p lv tg htg hR hs
   obtain ⟨e1,e2⟩:=zahs hR
   obtain ⟨_,_,_,_,_,hkl,_,hch⟩:=hR.inv
   obtain ⟨b,hbc⟩:=kk1 hkl
   rw [hbc] at e1
   have hb:=hch 0 b x (by rw [hbc];rfl) rfl
   have one:∀ (i:Nat),(zaaJ x i).size<=2000000->∀ q∈[(((b:Int),(i:Int)+1),zaaJ x i)],FOk Tryz.prog gl0 fYPr [zadO (l.map xE),i0 q.1.1,i0 q.1.2] .nil ⟨s0 q.2,.nil,[]⟩:=fun i h q hq=>by
     have:=zabK x i
     rw [List.mem_singleton] at hq;subst hq;exact hx b i _ rfl hb (by omega)
   rw [zadS _ _ htg]
   rcases hk with rfl|rfl|rfl
   · rw [zart] at hs ⊢
     exact ypFn (zafF (one 2 (by rw [ByteArray.size_append] at hs;omega))) rfl (zax3 ⟨e1,e2⟩ hs tg)
   · rw [zars] at hs ⊢
     exact ypFn (zafF (one 4 (by rw [ByteArray.size_append] at hs;omega))) rfl (zax1 ⟨e1,e2⟩ hs tg)
   · rw [zarr] at hs ⊢
     exact ypFn (zafF (one 4 (by rw [ByteArray.size_append] at hs;omega))) rfl (zaxZ ⟨e1,e2⟩ hs tg)
 · intro a t ht p lv tg htg hR hs
   obtain ⟨e1,e2⟩:=zahs hR
   obtain ⟨_,_,_,_,_,hkl,_,_⟩:=hR.inv
   rw [kk0 hkl] at e1
   have e:zabA (.mk 10 a 0 t [])=t++⟨#[40]⟩++⟨#[41]⟩:=by rw [zak8 ht,ByteArray.append_empty];rfl
   rw [zadS _ _ htg,e];rw [e] at hs
   exact ypFn (zauA (t:=t) (ks:=[]) (ar:=0) (m:=0) (b:=false) (fun _ hq=>nomatch hq) (by rw [zadL,if_pos ht]) (zauk 0 (by decide))) rfl (zaxT ⟨e1,e2⟩ hs tg)
 · intro a n t x hn _ hx p lv tg htg hR hs
   obtain ⟨e1,e2⟩:=zahs hR
   obtain ⟨_,_,_,_,_,hkl,_,hch⟩:=hR.inv
   obtain ⟨b,hbc⟩:=kk1 hkl
   rw [hbc] at e1
   have hb:=hch 0 b x (by rw [hbc];rfl) rfl
   have one:(zabA x).size<=2000000->∀ q∈[(((b:Int),(1:Int)),zabA x)],FOk Tryz.prog gl0 fYPr [zadO (l.map xE),i0 q.1.1,i0 q.1.2] .nil ⟨s0 q.2,.nil,[]⟩:=fun h q hq=>by
     rw [List.mem_singleton] at hq;subst hq;exact hx b 0 _ rfl hb h
   rcases hn with ⟨h1,h2⟩|⟨h1,h2,h3⟩
   · have e:zabA (.mk 10 a n t [x])=t++⟨#[40]⟩++zabA x++⟨#[41]⟩:=zak7 h1
     rw [zadS _ _ htg,e];rw [e] at hs
     exact ypFn (zauA (t:=t) (ar:=1) (m:=n) (b:=false) (one (szM hs)) (by rw [zadL,if_neg (by omega),if_pos h1]) (by rw [h2];exact zauk 0 (by decide))) rfl (zaxR ⟨e1,e2⟩ hs tg)
   · obtain ⟨j,rfl⟩:=Int.eq_ofNat_of_zero_le h2
     have e:zabA (.mk 10 a (j:Int) t [x])=t++⟨#[40]⟩++zabA x++⟨#[44]⟩++zaeh (j:Int)++⟨#[41]⟩:=by rw [zak6 h1,<-ByteArray.append_assoc,<-ByteArray.append_assoc];rfl
     rw [zadS _ _ htg,e];rw [e] at hs
     exact ypFn (zauA (t:=t) (ar:=1) (m:=(j:Int)) (b:=true) (one (szM (szLd (szLd hs)))) (by rw [zadL,if_neg (by omega),if_neg (by omega),if_pos h1]) (zauk j (by omega))) rfl (zaxP ⟨e1,e2⟩ hs tg)
abbrev zaaZ:Nat:=8
def tH (ns:List AV):Hp:=hpL [(1048577,⟨[0,0],.row true 1 [zadO ns]⟩)]
abbrev tArg:AV := .ptr 1048577 [0,0] 0 0
abbrev tlA (ea eb:List AV)(i:Int):List AV:=[tArg,.lst false 5 ea,.lst false 1 eb,i0 i]
abbrev tlO (ns:List AV):Ex × Back:=(.exit 0,⟨.tup [],tH ns,[]⟩)
abbrev lpT (P:Prop)(ns ea eb:List AV)(i:Int):Lp:=Lp1 [12,15,16,17] [] (fun _=>[]) P (tlA ea eb i) (tH ns) (tlO ns)
def XTl:WX:=(XB.ask [zaaZ]).askAt zaaZ [101,103,108,109,110,112,117,119,124,125,126,128]
def rTl (os:Orc)(P:Prop)(ns ea eb:List AV)(i:Int):Prop:=runL XTl 10 zaaZ (fn zaaZ).ntmps (zaaX (code zaaZ) 0) (lpT P ns ea eb (i+1)) (lpT P ns ea eb (i+1)) os 0 [] (tlA ea eb i) (tH ns) (tlO ns)
def rTlE (os:Orc)(P:Prop)(ns ea eb:List AV)(i:Int):Prop:=rTl os P ns ea eb i
def rTlR (os:Orc)(P:Prop)(ns ea eb:List AV)(i:Int):Prop:=rTl os P ns ea eb i
def XTz (xs ys:List AV)(s s' u:ByteArray)(q r:AV)(kd:AV)(k:Int):WX :=
 ((((((XBE.add zajK (Sp.con [spQ [.lst false 1 xs] (s0 s)])).add zacB (Sp.con [spQ [s0 s,.lst false 1 ys] (s0 s')])).add zacg (Sp.con [spQ [s0 u] q])).add zabu (Sp.con [spQ [s0 u] r])).add zamD (Sp.con [spQ [] (b0 true)])).add zaAq (Sp.con [spQ [kd] (i0 k)]))
def gTl (X:WX)(os:Orc)(xs ys:List AV)(raw:ByteArray)(c:Bool):Prop:=lawW (X.ask [zaaZ]) 12 zaaZ (fn zaaZ) (code zaaZ) os [.lst false 1 xs,s0 raw,b0 c,.lst false 1 ys]
abbrev zamO:AV := .iface zai (i0 5)
def gTlL (os:Orc)(xs ys:List AV)(s s' u raw:ByteArray)(c:Bool):Prop:=gTl (XTz xs ys s s' u (.tup [nV 0 0 0 ByteArray.empty [],zamO]) (.tup [zais,i0 5,i0 0]) zamO 5) os xs ys raw c
def gTlB (os:Orc)(xs ys:List AV)(s s' u raw:ByteArray)(c:Bool)(k a:Int):Prop:=gTl ((XTz xs ys s s' u (.tup [nV 0 0 0 ByteArray.empty [],zaau k a]) (.tup [zais,i0 k,i0 a]) (zaau k a) k).add fAtE (Sp.con [spQ [zaau k a] (i0 a)])) os xs ys raw c
abbrev tpA (ns:List AV):AV:=i0 ((ns.length:Int)-1)
def XTO (xs ys:List AV)(s s' u:ByteArray)(n:AV)(ns ea eb:List AV)(w:ByteArray):WX :=
 (((((((((XTz xs ys s s' u (.tup [n,.lit .nilIface]) (.tup [zadO ns,i0 0,i0 0]) (.lit .nilIface) 0).add fTop (Sp.con [spQ [zadO ns] (tpA ns)])).add zaa4 (Sp.con [spQ [n,zadO ns,tpA ns] (b0 true)])).add zadE (Sp.con [spQ [n] (b0 true)])).add zao1 (Sp.con [spQ [n] (s0 w)])).add fYPr (Sp.con [spQ [zadO ns,tpA ns,i0 1] (s0 w)])).add zab5 (Sp.con [spQ [n] (.lst false 5 ea)])).add zaao (Sp.con [spQ [zadO ns,tpA ns] (.lst false 1 eb)])).addLp zaaZ 0 (lpT True ns ea eb 0))
def gTlO (os:Orc)(xs ys:List AV)(s s' u raw:ByteArray)(c:Bool)(k a m:Int)(w:ByteArray)(vs ns ea eb:List AV)(y:ByteArray):Prop:=gTl (XTO xs ys s s' u (nV k a m w vs) ns ea eb y) os xs ys raw c
def zaFL (os:Orc)(xs ys:List AV)(s s' u:ByteArray):Prop:=gTlL os xs ys s s' u u true
def zaFM (os:Orc)(xs ys:List AV)(s u raw:ByteArray):Prop:=gTlL os xs ys s u u raw false
def zaFP (os:Orc)(xs ys:List AV)(s s' u:ByteArray)(k a:Int):Prop:=gTlB os xs ys s s' u u true k a
def zaFQ (os:Orc)(xs ys:List AV)(s u raw:ByteArray)(k a:Int):Prop:=gTlB os xs ys s u u raw false k a
def zaFN (os:Orc)(xs ys:List AV)(s s' u:ByteArray)(k a:Int):Prop:=gTlB os xs ys s s' u u true k a
def zaFO (os:Orc)(xs ys:List AV)(s u raw:ByteArray)(k a:Int):Prop:=gTlB os xs ys s u u raw false k a
def zaFJ (os:Orc)(xs ys:List AV)(s s' u:ByteArray)(k a m:Int)(w:ByteArray)(vs ns ea eb:List AV)(y:ByteArray):Prop:=gTlO os xs ys s s' u u true k a m w vs ns ea eb y
def zaFK (os:Orc)(xs ys:List AV)(s u raw:ByteArray)(k a m:Int)(w:ByteArray)(vs ns ea eb:List AV)(y:ByteArray):Prop:=gTlO os xs ys s u u raw false k a m w vs ns ea eb y
end
end Go.Proofs.YtpofhijgccocpaaGreatDoor
end
section
namespace Go.Proofs.YtpofhijgccocpaaGreatDoor
open Go Go.AS Go.TP
noncomputable abbrev zauS (a:Int) (k:Int):=(True/\Wks [AV.iface 118 (AV.ref (AV.agg [i0 a,AV.iface 26 (i0 k)]))] [AV.iface 118 (AV.ref (AV.agg [i0 a,AV.iface 26 (i0 k)]))]/\hpL []=hpL [])
noncomputable abbrev zah0 (u:ByteArray):=(True/\Wks [s0 u] [s0 u]/\hpL []=hpL [])
theorem zavR (P:Prop)(ns ea eb:List AV)(i:Int):rTlE (Orc.f Orc.z) P ns ea eb i=(let z1:=(hpL [eR 1048577 [0,0] 1 [AV.agg [L5 ns]]]);decide (i<(↑(List.length ea):Int))=false/\Ex.exit 0=Ex.exit 0/\Wk (AV.tup []) (AV.tup [])/\SameH z1 z1):=by kernel_rfl
def zaEj:Orc:=Orc.t (HF (HF (HF (Orc.f (Orc.f (Orc.f (Orc.f Orc.z)))))))
theorem zavP (P:Prop)(ns ea eb:List AV)(i:Int):rTlR zaEj P ns ea eb i=(let z1:=(decide ((0:Int)<=intA (List.getD eb (Int.toNat i) uu)/\intA (List.getD eb (Int.toNat i) uu)<(↑(List.length ns):Int))&&(true&&(zaaF (Cx.B (cxV XTl 10 zaaZ)) shN 33 (List.getD ns (Int.toNat (intA (List.getD eb (Int.toNat i) uu))) uu)&&(true||false))));let z2:=(decide ((0:Int)<=i/\i<(↑(List.length ea):Int))&&(true&&(zaaF (Cx.B (cxV XTl 10 zaaZ)) shN 37 (List.getD ea (Int.toNat i) uu)&&(true||false))));let z3:=(decide ((0:Int)<=i/\i<(↑(List.length eb):Int))&&(true&&(zaaF (Cx.B (cxV XTl 10 zaaZ)) shN 3 (List.getD eb (Int.toNat i) uu)&&(false||true))));let z4:=[eR 1048577 [0,0] 1 [AV.agg [L5 ns]]];let z5:=(List.getD ns (Int.toNat (intA (List.getD eb (Int.toNat i) uu))) uu);let z6:=[AV.ptr 1048577 [0,0] 0 0,L5 ea,L1 eb,i0 (i+1)];decide (i<(↑(List.length ea):Int))=true/\z2=true/\z3=true/\z1=true/\(!ByteArray.toList (strA (nthA 3 (List.getD ea (Int.toNat i) uu)))==ByteArray.toList (strA (nthA 3 z5)))=false/\Nf (Nf (z2=true/\Nf4 (Nf (Nf (Nf (z3=true/\Nf (Nf (z1=true/\Nf (Nf (Nf ((intA (nthA 1 (List.getD ea (Int.toNat i) uu)) != intA (nthA 1 z5))=false/\inR IntKind.i64 (i+1)=true/\∃ (_:Unit),(P/\Wks z6 z6/\hpL z4=hpL z4)/\Ex.exit 0=Ex.exit 0/\Wk (AV.tup []) (AV.tup [])/\SameH (hpL z4) (hpL z4))))))))))))):=by kernel_rfl
def zaw2:Orc:=Orc.t (HF (Orc.f (Orc.f (Orc.f (Orc.t (Orc.t (HF (HF (Orc.t Orc.z)))))))))
theorem zas5 (xs ys:List AV)(s s' u:ByteArray):zaFL zaw2 xs ys s s' u=(U1 [L1 xs] [] (U1 [s0 s,L1 ys] [] (Yt (∃ (_:Unit),(zah0 u)/\∃ (_:Unit),(zah0 u)/\U1 [] [] (Nf (Nf (U1 [AV.iface 26 (i0 5)] [] (Nf4 (Nf (Yt (Yt (Nf4 (Nf4 (Yt (b0 true=b0 true))))))))))))))):=by kernel_rfl
def zaw3:Orc:=HF (HF (Orc.t (Orc.t (HF (HF (Orc.t Orc.z))))))
theorem zas7 (xs ys:List AV)(s u raw:ByteArray):zaFM zaw3 xs ys s u raw=(U1 [L1 xs] [] (U1 [s0 s,L1 ys] [] (Nf (∃ (_:Unit),(zah0 u)/\∃ (_:Unit),(zah0 u)/\U1 [] [] (Nf (Nf (U1 [AV.iface 26 (i0 5)] [] (Nf4 (Nf (Yt (Yt (Nf4 (Nf4 (Yt (b0 true=b0 true))))))))))))))):=by kernel_rfl
def zaw6:Orc:=Orc.t (HF (Orc.f (Orc.f (Orc.f (Orc.t (Orc.t (Orc.f (Orc.f (HT (Orc.f (Orc.f (Orc.t Orc.z))))))))))))
theorem zatc (xs ys:List AV)(s s' u:ByteArray)(k a:Int):zaFP zaw6 xs ys s s' u k a=(U1 [L1 xs] [] (U1 [s0 s,L1 ys] [] (Yt (∃ (_:Unit),(zah0 u)/\∃ (_:Unit),(zah0 u)/\U1 [] [] (Nf (Nf (∃ (_:Unit),(zauS a k)/\Nf (Nf ((k != k)=false/\Nf (Nf ((k != 0)=true/\Yt (Nf (Nf ((k != 5)=true/\Yt (∃ (_:Unit),(zauS a k)/\Yt (Yt (Nf ((a != a)=false/\(k != 0)=true/\b0 true=b0 true)))))))))))))))))):=by kernel_rfl
def zaw7:Orc:=HF (HF (Orc.t (Orc.t (Orc.f (Orc.f (HT (Orc.f (Orc.f (Orc.t Orc.z)))))))))
theorem zate (xs ys:List AV)(s u raw:ByteArray)(k a:Int):zaFQ zaw7 xs ys s u raw k a=(U1 [L1 xs] [] (U1 [s0 s,L1 ys] [] (Nf (∃ (_:Unit),(zah0 u)/\∃ (_:Unit),(zah0 u)/\U1 [] [] (Nf (Nf (∃ (_:Unit),(zauS a k)/\Nf (Nf ((k != k)=false/\Nf (Nf ((k != 0)=true/\Yt (Nf (Nf ((k != 5)=true/\Yt (∃ (_:Unit),(zauS a k)/\Yt (Yt (Nf ((a != a)=false/\(k != 0)=true/\b0 true=b0 true)))))))))))))))))):=by kernel_rfl
def zaw4:Orc:=Orc.t (HF (Orc.f (Orc.f (Orc.f (Orc.t (Orc.t (HF (HF (Orc.t Orc.z)))))))))
theorem zas9 (xs ys:List AV)(s s' u:ByteArray)(k a:Int):zaFN zaw4 xs ys s s' u k a=(U1 [L1 xs] [] (U1 [s0 s,L1 ys] [] (Yt (∃ (_:Unit),(zah0 u)/\∃ (_:Unit),(zah0 u)/\U1 [] [] (Nf (Nf (∃ (_:Unit),(zauS a k)/\Nf (Nf ((k != k)=false/\Nf (Nf ((k != 0)=true/\Yt (Nf (Nf ((k != 5)=false/\Nf4 (Nf ((k != 0)=true/\b0 true=b0 true)))))))))))))))):=by kernel_rfl
def zaw5:Orc:=HF (HF (Orc.t (Orc.t (HF (HF (Orc.t Orc.z))))))
theorem zata (xs ys:List AV)(s u raw:ByteArray)(k a:Int):zaFO zaw5 xs ys s u raw k a=(U1 [L1 xs] [] (U1 [s0 s,L1 ys] [] (Nf (∃ (_:Unit),(zah0 u)/\∃ (_:Unit),(zah0 u)/\U1 [] [] (Nf (Nf (∃ (_:Unit),(zauS a k)/\Nf (Nf ((k != k)=false/\Nf (Nf ((k != 0)=true/\Yt (Nf (Nf ((k != 5)=false/\Nf4 (Nf ((k != 0)=true/\b0 true=b0 true)))))))))))))))):=by kernel_rfl
def zaw0:Orc:=Orc.t (HF (HF (HF (HF (HF (HF (HF (Orc.f (Orc.f Orc.z)))))))))
theorem zas1 (xs ys:List AV)(s s' u:ByteArray)(k a m:Int)(w:ByteArray)(vs ns:List AV)(ea eb:List AV)(y:ByteArray):zaFJ zaw0 xs ys s s' u k a m w vs ns ea eb y=(let z1:=AV.agg [i0 k,i0 a,i0 m,s0 w,L5 vs];let z2:=i0 ((↑(List.length ns):Int)-1);let z3:=AV.agg [L5 ns];let z4:=(True/\Wks [z3] [z3]/\hpL []=hpL []);let z5:=(True/\Wks [z1] [z1]/\hpL []=hpL []);let z6:=[AV.ptr 1048577 [0,0] 0 0,L5 ea,L1 eb,i0 0];U1 [L1 xs] [] (U1 [s0 s,L1 ys] [] (Yt (∃ (_:Unit),(zah0 u)/\∃ (_:Unit),(zah0 u)/\U1 [] [] (Nf (Nf (U1 [AV.lit Value.nilIface] [] (Nf4 (Nf4 (Nf4 (Nf4 (∃ (_:Unit),z4/\U1 [z1,z3,z2] [] (Nf (Nf (∃ (_:Unit),z5/\Nf (Nf (Nf (∃ (_:Unit),z5/\Nf (Nf (Nf (∃ (_:Unit),z4/\Nf (U1 [z3,z2,i0 1] [] (Nf ((!ByteArray.toList y==ByteArray.toList y)=false/\∃ (_:Unit),z5/\∃ (_:Unit),z4/\U1 [z3,z2] [] (((↑(List.length ea):Int) != (↑(List.length eb):Int))=false/\U1 z6 [eR 1048577 [0,0] 1 [z3]] (b0 true=b0 true)))))))))))))))))))))))))):=by kernel_rfl
def zaw1:Orc:=HF (HF (HF (HF (HF (HF (HF (Orc.f (Orc.f (Orc.f Orc.z)))))))))
theorem zas3 (xs ys:List AV)(s u raw:ByteArray)(k a m:Int)(w:ByteArray)(vs ns:List AV)(ea eb:List AV)(y:ByteArray):zaFK zaw1 xs ys s u raw k a m w vs ns ea eb y=(let z1:=AV.agg [i0 k,i0 a,i0 m,s0 w,L5 vs];let z2:=i0 ((↑(List.length ns):Int)-1);let z3:=AV.agg [L5 ns];let z4:=(True/\Wks [z3] [z3]/\hpL []=hpL []);let z5:=(True/\Wks [z1] [z1]/\hpL []=hpL []);let z6:=[AV.ptr 1048577 [0,0] 0 0,L5 ea,L1 eb,i0 0];U1 [L1 xs] [] (U1 [s0 s,L1 ys] [] (Nf (∃ (_:Unit),(zah0 u)/\∃ (_:Unit),(zah0 u)/\U1 [] [] (Nf (Nf (U1 [AV.lit Value.nilIface] [] (Nf4 (Nf4 (Nf4 (Nf4 (∃ (_:Unit),z4/\U1 [z1,z3,z2] [] (Nf (Nf (∃ (_:Unit),z5/\Nf (Nf (Nf (∃ (_:Unit),z5/\Nf (Nf (Nf (∃ (_:Unit),z4/\Nf (U1 [z3,z2,i0 1] [] (Nf ((!ByteArray.toList y==ByteArray.toList y)=false/\∃ (_:Unit),z5/\∃ (_:Unit),z4/\U1 [z3,z2] [] (((↑(List.length ea):Int) != (↑(List.length eb):Int))=false/\U1 z6 [eR 1048577 [0,0] 1 [z3]] (b0 true=b0 true)))))))))))))))))))))))))):=by kernel_rfl
end Go.Proofs.YtpofhijgccocpaaGreatDoor
end
section
namespace Go.Proofs.YtpofhijgccocpaaGreatDoor
open Go.AS Go.TP
noncomputable section
theorem zahw (k:Int):(k != k)=false:=by simp
theorem zalh (y:ByteArray):(!(y.toList==y.toList))=false:=by simp
theorem zas6 (xs ys:List AV) (s s' u:ByteArray)  : zaFL zaw2 xs ys s s' u:=by
 rw [zas5];exact ⟨(),⟨trivial,.refl _,rfl⟩,(),⟨trivial,.refl _,rfl⟩,rfl,(),⟨trivial,.refl _,rfl⟩,(),⟨trivial,.refl _,rfl⟩,(),⟨trivial,.refl _,rfl⟩,rfl,rfl,(),⟨trivial,.refl _,rfl⟩,rfl,rfl,rfl,rfl,rfl,rfl,rfl,rfl,rfl,rfl,rfl,rfl,rfl,rfl,rfl,rfl,rfl⟩
theorem zatd (xs ys:List AV)(s s' u:ByteArray)(k a:Int)(h0:k≠0)(h5:k≠5):zaFP zaw6 xs ys s s' u k a:=by
 rw [zatc];exact ⟨(),⟨trivial,.refl _,rfl⟩,(),⟨trivial,.refl _,rfl⟩,rfl,(),⟨trivial,.refl _,rfl⟩,(),⟨trivial,.refl _,rfl⟩,(),⟨trivial,.refl _,rfl⟩,rfl,rfl,(),⟨trivial,.refl _,rfl⟩,rfl,rfl,zahw k,rfl,rfl,bne_iff_ne.2 h0,rfl,rfl,rfl,bne_iff_ne.2 h5,rfl,(),⟨trivial,.refl _,rfl⟩,rfl,rfl,rfl,zahw a,bne_iff_ne.2 h0,rfl⟩
theorem zat (xs ys:List AV)(s s' u:ByteArray)(k a:Int)(h0:k≠0)(h5:(k != 5)=false):zaFN zaw4 xs ys s s' u k a:=by
 rw [zas9];exact ⟨(),⟨trivial,.refl _,rfl⟩,(),⟨trivial,.refl _,rfl⟩,rfl,(),⟨trivial,.refl _,rfl⟩,(),⟨trivial,.refl _,rfl⟩,(),⟨trivial,.refl _,rfl⟩,rfl,rfl,(),⟨trivial,.refl _,rfl⟩,rfl,rfl,zahw k,rfl,rfl,bne_iff_ne.2 h0,rfl,rfl,rfl,h5,rfl,rfl,rfl,rfl,rfl,bne_iff_ne.2 h0,rfl⟩
theorem zas2 (xs ys:List AV)(s s' u:ByteArray)(k a m:Int)(w:ByteArray)(vs ns ea eb:List AV)(y:ByteArray)(hl:((ea.length:Int) != (eb.length:Int))=false):zaFJ zaw0 xs ys s s' u k a m w vs ns ea eb y:=by
 rw [zas1];exact ⟨(),⟨trivial,.refl _,rfl⟩,(),⟨trivial,.refl _,rfl⟩,rfl,(),⟨trivial,.refl _,rfl⟩,(),⟨trivial,.refl _,rfl⟩,(),⟨trivial,.refl _,rfl⟩,rfl,rfl,(),⟨trivial,.refl _,rfl⟩,rfl,rfl,rfl,rfl,rfl,rfl,rfl,rfl,rfl,rfl,rfl,rfl,rfl,rfl,rfl,rfl,(),⟨trivial,.refl _,rfl⟩,(),⟨trivial,.refl _,rfl⟩,rfl,rfl,(),⟨trivial,.refl _,rfl⟩,rfl,rfl,rfl,(),⟨trivial,.refl _,rfl⟩,rfl,rfl,rfl,(),⟨trivial,.refl _,rfl⟩,rfl,(),⟨trivial,.refl _,rfl⟩,rfl,zalh y,(),⟨trivial,.refl _,rfl⟩,(),⟨trivial,.refl _,rfl⟩,(),⟨trivial,.refl _,rfl⟩,hl,(),⟨trivial,.refl _,rfl⟩,rfl⟩
theorem zas8 (xs ys:List AV) (s u raw:ByteArray)  : zaFM zaw3 xs ys s u raw:=by
 rw [zas7];exact ⟨(),⟨trivial,.refl _,rfl⟩,(),⟨trivial,.refl _,rfl⟩,rfl,(),⟨trivial,.refl _,rfl⟩,(),⟨trivial,.refl _,rfl⟩,(),⟨trivial,.refl _,rfl⟩,rfl,rfl,(),⟨trivial,.refl _,rfl⟩,rfl,rfl,rfl,rfl,rfl,rfl,rfl,rfl,rfl,rfl,rfl,rfl,rfl,rfl,rfl,rfl,rfl⟩
theorem zatf (xs ys:List AV)(s u raw:ByteArray)(k a:Int)(h0:k≠0)(h5:k≠5):zaFQ zaw7 xs ys s u raw k a:=by
 rw [zate];exact ⟨(),⟨trivial,.refl _,rfl⟩,(),⟨trivial,.refl _,rfl⟩,rfl,(),⟨trivial,.refl _,rfl⟩,(),⟨trivial,.refl _,rfl⟩,(),⟨trivial,.refl _,rfl⟩,rfl,rfl,(),⟨trivial,.refl _,rfl⟩,rfl,rfl,zahw k,rfl,rfl,bne_iff_ne.2 h0,rfl,rfl,rfl,bne_iff_ne.2 h5,rfl,(),⟨trivial,.refl _,rfl⟩,rfl,rfl,rfl,zahw a,bne_iff_ne.2 h0,rfl⟩
theorem zatb (xs ys:List AV)(s u raw:ByteArray)(k a:Int)(h0:k≠0)(h5:(k != 5)=false):zaFO zaw5 xs ys s u raw k a:=by
 rw [zata];exact ⟨(),⟨trivial,.refl _,rfl⟩,(),⟨trivial,.refl _,rfl⟩,rfl,(),⟨trivial,.refl _,rfl⟩,(),⟨trivial,.refl _,rfl⟩,(),⟨trivial,.refl _,rfl⟩,rfl,rfl,(),⟨trivial,.refl _,rfl⟩,rfl,rfl,zahw k,rfl,rfl,bne_iff_ne.2 h0,rfl,rfl,rfl,h5,rfl,rfl,rfl,rfl,rfl,bne_iff_ne.2 h0,rfl⟩
theorem zas4 (xs ys:List AV)(s u raw:ByteArray)(k a m:Int)(w:ByteArray)(vs ns ea eb:List AV)(y:ByteArray)(hl:((ea.length:Int) != (eb.length:Int))=false):zaFK zaw1 xs ys s u raw k a m w vs ns ea eb y:=by
 rw [zas3];exact ⟨(),⟨trivial,.refl _,rfl⟩,(),⟨trivial,.refl _,rfl⟩,rfl,(),⟨trivial,.refl _,rfl⟩,(),⟨trivial,.refl _,rfl⟩,(),⟨trivial,.refl _,rfl⟩,rfl,rfl,(),⟨trivial,.refl _,rfl⟩,rfl,rfl,rfl,rfl,rfl,rfl,rfl,rfl,rfl,rfl,rfl,rfl,rfl,rfl,rfl,rfl,(),⟨trivial,.refl _,rfl⟩,(),⟨trivial,.refl _,rfl⟩,rfl,rfl,(),⟨trivial,.refl _,rfl⟩,rfl,rfl,rfl,(),⟨trivial,.refl _,rfl⟩,rfl,rfl,rfl,(),⟨trivial,.refl _,rfl⟩,rfl,(),⟨trivial,.refl _,rfl⟩,rfl,zalh y,(),⟨trivial,.refl _,rfl⟩,(),⟨trivial,.refl _,rfl⟩,(),⟨trivial,.refl _,rfl⟩,hl,(),⟨trivial,.refl _,rfl⟩,rfl⟩
end
end Go.Proofs.YtpofhijgccocpaaGreatDoor
end
section
namespace Go.TP
open Go.AS
mutual
def fanS:Nd->Bool
 | .mk _ _ _ _ ks=>decide (ks.length<=3)&&fanL ks
def fanL:List Nd->Bool
 | []=>true
 | n::r=>fanS n&&fanL r
end
end Go.TP
end
section
namespace Go.TP
open Go.AS
end Go.TP
end
section
namespace Go.Proofs.YtpofhijgccocpaaGreatDoor
open Go.AS Go.TP
noncomputable section
theorem zagc (n:Nd)(lv:Nat):(zaaJ n lv).size<=(zabA n).size+2:=by
 rw [zaeF]
 split
 · rw [ByteArray.size_append,ByteArray.size_append];show 1+_+1<=_;omega
 · omega
theorem zarq (n:Nd)(h:zaas n=true):zae7 n->(zabA n).size<=625*cntS n:=by
 have sg2:∀ s,(zarL s).size<=2:=fun s=>by
  unfold zarL
  repeat' split
  all_goals decide
 refine zagr (P:=fun n=>zae7 n->(zabA n).size<=625*cntS n) ?_ ?_ ?_ ?_ ?_ n h
 · intro a t _ hf
   have hf:t.size<=600/\True:=hf
   rw [zanJ];show _<=625*1;omega
 · intro k a x y hk _ _ hx hy hf
   have h1:=hx hf.2.1
   have h2:=hy hf.2.2.1
   have two:∀ (s:Int) (i j:Nat),zafJ (.mk k a 0 ByteArray.empty [x,y])=atS x i++sg s::atS y j->s≠1->(zabA (.mk k a 0 ByteArray.empty [x,y])).size<=625*cntS (.mk k a 0 ByteArray.empty [x,y]):=fun s i j ht hs=>by
     rw [zah9 ht hs,ByteArray.size_append,ByteArray.size_append,zamX]
     have:=zagc x i
     have:=zagc y j
     have:=sg2 s
     omega
   rcases hk with rfl|rfl|rfl|rfl|rfl
   · exact two 7 0 1 rfl (by decide)
   · exact two 8 0 1 rfl (by decide)
   · exact two 9 1 2 rfl (by decide)
   · exact two 5 4 4 rfl (by decide)
   · exact two 6 4 4 rfl (by decide)
 · intro k a x hk _ hx hf
   have h1:=hx hf.2.1
   have h2:=zagc x 2
   have h4:=zagc x 4
   rw [zajS]
   rcases hk with rfl|rfl|rfl
   · rw [zart,ByteArray.size_append];show 1+_<=_;omega
   · rw [zars,ByteArray.size_append];show 2+_<=_;omega
   · rw [zarr,ByteArray.size_append];show _+2<=_;omega
 · intro a t ht hf
   have hf:t.size<=600/\True:=hf
   rw [zak8 ht];simp only [ByteArray.size_append];show t.size+1+0+1<=625*1;omega
 · intro a n t x hn _ hx hf
   have h1:=hx hf.2.1
   have hf:t.size<=600/\_:=hf
   rw [zajS]
   rcases hn with ⟨h2,_⟩|⟨h2,h3,h4⟩
   · rw [zak7 h2];simp only [ByteArray.size_append];show t.size+1+_+1<=_;omega
   · obtain ⟨j,rfl⟩:=Int.eq_ofNat_of_zero_le h3
     have:=zaqF (n:=j) (by omega)
     rw [zak6 h2];simp only [ByteArray.size_append];show t.size+1+(_+1+_)+1<=_;omega
theorem zaoA {s:ByteArray}{ts:List Tk}(h:lexS s = .ok ts):ts.length<=601:=by
 unfold lexS at h
 by_cases hs:600<s.size
 · rw [if_pos hs] at h;cases h
 · rw [if_neg hs] at h
   have hg:=zac2 s s.size 0 []
   generalize lexG s s.size 0 []=R at h hg
   obtain ⟨_|j,us⟩:=R
   · cases h
     have:=hg us (Int.le_refl _) (by omega) rfl
     rw [List.length_append,List.length_singleton]
     have e0:((([]:List Tk).length:Nat):Int)=0:=rfl
     omega
   · cases h
theorem zass {s:ByteArray}{n:Nd}(h:zagv s = .ok n):zae7 n/\cntS n<=1203:=by
 unfold zagv at h
 have ho:=@zajA s
 have hl:=@zaoA s
 generalize lexS s=L at h ho hl
 cases L with
 | long=>cases h
 | bad i=>cases h
 | ok ts =>
  have hts:=ho rfl
  have hlen:=hl rfl
  have h2:=zacC (5*ts.length+5) .expr 0 ts hts
  have h3:=zakL (5*ts.length+5) .expr 0 ts hts
  have h:zakc (PF (5*ts.length+5) .expr 0 ts) = .ok n:=h
  generalize PF (5*ts.length+5) .expr 0 ts=r at h h2 h3
  obtain ⟨m,e,us⟩:=r
  cases e with
  | some ka=>obtain ⟨k,a⟩:=ka;cases h
  | none =>
   have h:(if (zaab us).kind=11 then ParR.ok m else .bad 15 (zaab us).at_) = .ok n:=h
   split at h
   · cases h
     have h3:cntS n+2*us.length<=2*ts.length+1:=h3
     exact ⟨h2,by omega⟩
   · cases h
end
end Go.Proofs.YtpofhijgccocpaaGreatDoor
end
section
namespace Go.Proofs.YtpofhijgccocpaaGreatDoor
open Go.AS Go.TP
noncomputable section
mutual
theorem zajs:∀ n:Nd,(zaah n).length<=cntS n
 | .mk k a m t ks=>by
  have:=zahx ks
  rw [zaah];show _<=cntL ks+1
  split
  · show 1<=_;omega
  · omega
theorem zahx:∀ l:List Nd,(zab4 l).length<=cntL l
 | []=>by rw [zab4];exact Nat.le_refl _
 | n::r=>by
  have h1:=zajs n
  have h2:=zahx r
  rw [zab4,List.length_append];show _<=cntS n+cntL r;omega
end
theorem zajN:∀ (us:List Nd) (k:Nat) (u:Nd),us[k]?=some u->(encL us).getD k (AV.lit (Value.tuple ⟨[]⟩))=encP u
 | [],k,u,h=>by cases h
 | .mk k a m t ks::r,0,u,h=>by cases h;rfl
 | x::r,k+1,u,h=>zajN r k u h
theorem zaGU (k a m:Int)(t:ByteArray)(vs:List AV):zaaF (Cx.B (cxV XB 10 zaaZ)) shN 37 (nV k a m t vs)=true:=by kernel_rfl
theorem zaGV (b:Int):zaaF (Cx.B (cxV XB 10 zaaZ)) shN 3 (i0 b)=true:=by kernel_rfl
theorem zaGT (k a m:Int)(t:ByteArray)(vs:List AV):zaaF (Cx.B (cxV XB 10 zaaZ)) shN 33 (rgV k a m t vs)=true:=by kernel_rfl
structure TlH (ns ea eb:List AV) (i:Int) (u:Nd) (q:Nat) (vs:List AV):Prop where
 l1:0<=i/\i<(ea.length:Int)
 l2:i<(eb.length:Int)
 l3:(q:Int)<(ns.length:Int)
 e1:ea.getD i.toNat (AV.lit (Value.tuple ⟨[]⟩))=encP u
 e2:eb.getD i.toNat (AV.lit (Value.tuple ⟨[]⟩))=i0 (q:Int)
 e3:ns.getD (q:Int).toNat (AV.lit (Value.tuple ⟨[]⟩))=rgV u.kind u.at_ u.num u.text vs
section
variable {ns ea eb:List AV} {i:Int} {u:Nd} {q:Nat} {vs:List AV} (H:TlH ns ea eb i u q vs)
include H
theorem TlH.c2 (B:Tb)(hB:B=Cx.B (cxV XB 10 zaaZ)):(decide (0<=i/\i<(ea.length:Int))&&(true&&(zaaF B shN 37 (ea.getD i.toNat (AV.lit (Value.tuple ⟨[]⟩)))&&(true||false))))=true:=by
 subst hB;obtain ⟨k,a,m,t,ks⟩:=u
 rw [H.e1,decide_eq_true H.l1];exact andG rfl (andG rfl (andG (zaGU k a m t (encL ks)) rfl))
theorem TlH.c3 (B:Tb)(hB:B=Cx.B (cxV XB 10 zaaZ)):(decide (0<=i/\i<(eb.length:Int))&&(true&&(zaaF B shN 3 (eb.getD i.toNat (AV.lit (Value.tuple ⟨[]⟩)))&&(false||true))))=true:=by
 subst hB;rw [H.e2,zaGV,decide_eq_true ⟨H.l1.1,H.l2⟩];rfl
theorem TlH.c4 (B:Tb)(hB:B=Cx.B (cxV XB 10 zaaZ)):(decide (0<=intA (eb.getD i.toNat (AV.lit (Value.tuple ⟨[]⟩)))/\intA (eb.getD i.toNat (AV.lit (Value.tuple ⟨[]⟩)))<(ns.length:Int))&&(true&&(zaaF B shN 33 (ns.getD (intA (eb.getD i.toNat (AV.lit (Value.tuple ⟨[]⟩)))).toNat (AV.lit (Value.tuple ⟨[]⟩)))&&(true||false))))=true:=by
 subst hB;rw [H.e2];show (decide (0<=(q:Int)/\(q:Int)<(ns.length:Int))&&(true&&(zaaF _ shN 33 (ns.getD (q:Int).toNat (AV.lit (Value.tuple ⟨[]⟩)))&&(true||false))))=true
 rw [H.e3,zaGT,decide_eq_true ⟨by omega,H.l3⟩];rfl
theorem TlH.c5:(!(ByteArray.toList (strA (nthA 3 (ea.getD i.toNat (AV.lit (Value.tuple ⟨[]⟩)))))==ByteArray.toList (strA (nthA 3 (ns.getD (intA (eb.getD i.toNat (AV.lit (Value.tuple ⟨[]⟩)))).toNat (AV.lit (Value.tuple ⟨[]⟩)))))))=false:=by
 obtain ⟨k,a,m,t,ks⟩:=u
 rw [H.e2,H.e1];show (!(ByteArray.toList t==ByteArray.toList (strA (nthA 3 (ns.getD (q:Int).toNat (AV.lit (Value.tuple ⟨[]⟩)))))))=false
 rw [H.e3];exact zalh t
theorem TlH.c6:(intA (nthA 1 (ea.getD i.toNat (AV.lit (Value.tuple ⟨[]⟩)))) != intA (nthA 1 (ns.getD (intA (eb.getD i.toNat (AV.lit (Value.tuple ⟨[]⟩)))).toNat (AV.lit (Value.tuple ⟨[]⟩)))))=false:=by
 obtain ⟨k,a,m,t,ks⟩:=u
 rw [H.e2,H.e1];show (a != intA (nthA 1 (ns.getD (q:Int).toNat (AV.lit (Value.tuple ⟨[]⟩)))))=false
 rw [H.e3];exact zahw a
end
theorem zavQ {ns ea eb:List AV}{i:Int}{u:Nd}{q:Nat}{vs:List AV}(H:TlH ns ea eb i u q vs){P:Prop}(hP:P)(hr:inR .i64 (i+1)=true):rTlR zaEj P ns ea eb i:=by
 rw [zavP];exact ⟨decide_eq_true H.l1.2,H.c2 _ rfl,H.c3 _ rfl,H.c4 _ rfl,H.c5,rfl,rfl,H.c2 _ rfl,rfl,rfl,rfl,rfl,rfl,rfl,rfl,H.c3 _ rfl,rfl,rfl,H.c4 _ rfl,rfl,rfl,rfl,H.c6,hr,(),⟨hP,.refl _,rfl⟩,rfl,.refl _,.rfl⟩
theorem zavS {ns ea eb:List AV}{i:Int}{P:Prop}(h:¬i<(ea.length:Int)):rTlE (Orc.f Orc.z) P ns ea eb i:=by
 rw [zavR];exact ⟨decide_eq_false h,rfl,.refl _,.rfl⟩
abbrev BTl (ns ea eb:List AV)(i:Int):Prop:=zab9 Tryz.prog gl0 (fn zaaZ).ntmps (zaaX (code zaaZ) 0) [12,15,16,17] (fun _=>[]) (tlA ea eb i) (tH ns) fun _ q=>q=tlO ns
theorem zaDq:XTl.Sound:=(zaaR.ask _).askAt _ _
attribute [local irreducible] runL in
theorem zapH {os:Orc}{P:Prop}{ns ea eb:List AV}{i:Int}(ih:P->BTl ns ea eb (i+1))(g:rTl os P ns ea eb i):BTl ns ea eb i :=
 lp_round1 (X:=XTl) zaDq (f:=zaaZ) (fn:=fn zaaZ) (code:=code zaaZ) (fnOk zaaZ (by kernel_rfl)) (show (fn zaaZ).body=some (code zaaZ) by kernel_rfl) (i:=0) (show ([12,15,16,17]:List Nat).Nodup by decide) ih g
attribute [local irreducible] runL in
theorem tlL {l:List RN}{n:Nd}{qs:List Nat}(hq:NmP l n qs)(hL:(zaah n).length<=1000000):∀ (f:Nat) (i:Int),0<=i->(zaah n).length-i<=f->BTl (l.map xE) (encL (zaah n)) (iq qs) i:=by
 obtain ⟨hl,hn⟩:=hq
 have la:=zabk (zaah n)
 have lb:=zamf qs
 have fin:∀ i:Int,¬i<(encL (zaah n)).length->BTl (l.map xE) (encL (zaah n)) (iq qs) i:=fun i h=>zapH (P:=False) (fun h=>h.elim) (zavS h)
 intro f
 induction f with
 | zero=>intro i h0 hf;exact fin i (by omega)
 | succ f ih =>
  intro i h0 hf
  by_cases h:i<(encL (zaah n)).length
  · have h1:i.toNat<(zaah n).length:=by omega
    have h2:i.toNat<qs.length:=by omega
    have hu:(zaah n)[i.toNat]?=some ((zaah n)[i.toNat]'h1):=List.getElem?_eq_getElem h1
    have hqq:qs[i.toNat]?=some (qs[i.toNat]'h2):=List.getElem?_eq_getElem h2
    obtain ⟨G,_⟩:=hn i.toNat _ _ hqq hu
    have H:TlH (l.map xE) (encL (zaah n)) (iq qs) i ((zaah n)[i.toNat]'h1) (qs[i.toNat]'h2) _:=⟨⟨h0,h⟩,by omega,G.lt,zajN _ _ _ hu,by rw [List.getD_eq_getElem?_getD,List.getElem?_map,hqq];rfl,G.e⟩
    exact zapH (P:=True) (fun _=>ih (i+1) (by omega) (by omega)) (zavQ H trivial (zaag (by omega) (by omega)))
  · exact fin i h
def zapC (xs ys:List AV)(raw:ByteArray)(c:Bool):Prop:=∃ X os,X.Sound/\X.px=X0E/\lawW X 12 zaaZ (fn zaaZ) (code zaaZ) os [.lst false 1 xs,s0 raw,b0 c,.lst false 1 ys]
attribute [local irreducible] runF runL lawW
theorem zapC.of {X:WX}(hX:X.Sound)(hp:X.px=X0E){os:Orc}{xs ys:List AV}{raw:ByteArray}{c:Bool}(g:gTl X os xs ys raw c):zapC xs ys raw c:=⟨_,os,hX.ask _,hp,g⟩
theorem zauB {xs ys:List AV}{s s' u:ByteArray}{q r kd:AV}{k:Int}(ht:F zajK [.lst false 1 xs] (s0 s))(hb:F zacB [s0 s,.lst false 1 ys] (s0 s'))(hq:F zacg [s0 u] q)(hr:F zabu [s0 u] r)(hk:FE zaAq [kd] (i0 k)):(XTz xs ys s s' u q r kd k).Sound :=
 (((((zaDv.add (conE (toE ht))).add (conE (toE hb))).add (conE (toE hq))).add (conE (toE hr))).add (conE zaxt)).add (conE hk)
theorem zaoE:FE zaAq [zamO] (i0 5):=zaBm (n:=100) (by kernel_rfl)
theorem zapG (xs ys:List AV)(s s' u raw:ByteArray)(c:Bool)(hc:c=true/\raw=u∨c=false/\s'=u)(ht:F zajK [.lst false 1 xs] (s0 s))(hb:F zacB [s0 s,.lst false 1 ys] (s0 s')):zapC xs ys raw c:=by
 have hp:=zast u
 have hx:=zans u
 have hpl:=@zass u
 have hrt:=@zakb u
 cases hq:zagv u with
 | long =>
  rw [hq] at hp hx
  have hX:=zauB ht hb hp hx zaoE
  rcases hc with ⟨rfl,rfl⟩|⟨rfl,rfl⟩
  · exact .of hX rfl (zas6 xs ys s s' raw)
  · exact .of hX rfl (zas8 xs ys s s' raw)
 | bad k a =>
  rw [hq] at hp hx
  obtain ⟨hx,h0⟩:=hx
  have hX:=(zauB ht hb hp hx (zasL k a)).add (conE (zaDo k a))
  cases h5:(k != 5) with
  | true =>
   have h5:=bne_iff_ne.1 h5
   rcases hc with ⟨rfl,rfl⟩|⟨rfl,rfl⟩
   · exact .of hX rfl (zatd xs ys s s' raw k a h0 h5)
   · exact .of hX rfl (zatf xs ys s s' raw k a h0 h5)
  | false =>
   rcases hc with ⟨rfl,rfl⟩|⟨rfl,rfl⟩
   · exact .of hX rfl (zat xs ys s s' raw k a h0 h5)
   · exact .of hX rfl (zatb xs ys s s' raw k a h0 h5)
 | ok n =>
  rw [hq] at hp hx
  obtain ⟨l,p,hl,hle,_,hR,hx⟩:=hx
  obtain ⟨hfine,hcnt⟩:=hpl hq
  have hr:=hrt hq
  have hnl:(zaah n).length<=1000000:=Nat.le_trans (zajs n) (by omega)
  have hsz:(zabA n).size<=2000000:=by
   have:=zarq n hr hfine
   omega
  obtain ⟨qs,hqs,hxn⟩:=zant n hr hnl p hR
  have hsn:=zarM n hr p hR
  have htp:=zaBY (l.map xE) (by rw [List.length_map];exact hle)
  have ep:i0 (p:Int)=tpA (l.map xE):=by
   show i0 _=i0 _
   rw [List.length_map,hl,show ((p+1:Nat):Int)-1=(p:Int) by omega]
  have hyp:F fYPr [zadO (l.map xE),i0 (p:Int),i0 1] (s0 (zaaJ n 0)):=zaGB n hr p 0 1 rfl hR hsz
  rw [show zaaJ n 0=zabA n by rw [zaeF,if_neg (Nat.not_lt_zero _)]] at hyp
  have hrr:F zadE [encP n] (b0 true):=hr ▸ zalt n hfine
  have hpr:=zasr n hr hfine hsz
  have hnm:=zasB n hr hnl
  have hB:=tlL hqs hnl (zaah n).length 0 (Int.le_refl _) (by omega)
  rw [ep] at hsn hxn hyp
  have hX:=(((((((zauB ht hb hp hx zasK).add (conE (toE htp))).add (conE (toE hsn))).add (conE (toE hrr))).add (conE (toE hpr))).add (conE (toE hyp))).add (conE (toE hnm))).add (conE (toE hxn))
  have hY:=hX.addLp (fnOk zaaZ (by kernel_rfl)) (show (fn zaaZ).body=some (code zaaZ) by kernel_rfl) (by kernel_rfl)
   (Spl.ok (L:=lpT True (l.map xE) (encL (zaah n)) (iq qs) 0) (l:=[⟨Unit,fun _=>True,fun _=>tlA (encL (zaah n)) (iq qs) 0,fun _=>tH (l.map xE),fun _=>tlO (l.map xE)⟩]) rfl (show ([12,15,16,17]:List Nat).Nodup by decide) fun s' hs' i _=>by
    obtain rfl:=List.mem_singleton.1 hs'
    exact zab9.glob zaxL hB)
  have hlen:(((encL (zaah n)).length:Int) != ((iq qs).length:Int))=false:=by rw [zabk,zamf,hqs.1];exact zahw _
  obtain ⟨k,a,m,w,ks⟩:=n
  rcases hc with ⟨rfl,rfl⟩|⟨rfl,rfl⟩
  · exact .of hY rfl (zas2 xs ys s s' raw k a m w (encL ks) _ _ _ _ hlen)
  · exact .of hY rfl (zas4 xs ys s s' raw k a m w (encL ks) _ _ _ _ hlen)
theorem zavi (xs ys:List Int)(hxs:okXs xs)(hys:okXs ys)(raw:ByteArray)(c:Bool):zapC (xs.map i0) (ys.map i0) raw c:=by
 obtain ⟨s,hs,ht⟩:=zavj xs hxs
 obtain ⟨s',hb⟩:=zaA3 s ys hys (by omega)
 cases c with
 | true=>exact zapG _ _ s s' raw raw true (.inl ⟨rfl,rfl⟩) ht hb
 | false=>exact zapG _ _ s s' s' raw false (.inr ⟨rfl,rfl⟩) ht hb
theorem zaxM {l:List (String × DataW Unit)} {W:World} (h:laidMet Tryz.prog l W) (m1:("strconv.ErrSyntax",dErr eSyn.data.toList)∈l) (m2:("strconv.ErrRange",dErr eRan.data.toList)∈l)
  (m3:("internal/strconv.uint64pow10",(Lib.tabData .u64 powL:DataW Unit))∈l) {t:TypeId} {fz:Nat × Nat} (hh:W.heap[zaoR]?=some (.cells #[.iface tRty (.agg #[.pointer (some ⟨7,zaB6,none⟩)])] t fz)) :
  ∀ g x,glE g=some x->GV ⟨fun _=>none,fun b=>W.heap[b]?⟩ x g:=by
 intro g x hx
 have hx:bsel (Nat.beq g zaoR) (some errT) (gl0 g)=some x:=hx
 cases hb:Nat.beq g zaoR
 · rw [hb,zaai] at hx;exact zaCB h m1 m2 m3 g x hx
 · rw [hb,zaam] at hx;cases hx
   obtain rfl:=Nat.eq_of_beq_eq_true hb
   exact ⟨zaml hh,fun vs hvs=>(by cases hvs)⟩
theorem zaB3 {l:List (String × DataW Unit)} {W:World} (h:laidMet Tryz.prog l W) (m1:("strconv.ErrSyntax",dErr eSyn.data.toList)∈l) (m2:("strconv.ErrRange",dErr eRan.data.toList)∈l)
  (m3:("internal/strconv.uint64pow10",(Lib.tabData .u64 powL:DataW Unit))∈l) {t:TypeId} {fz:Nat × Nat} (hh:W.heap[zaoR]?=some (.cells #[.iface tRty (.agg #[.pointer (some ⟨7,zaB6,none⟩)])] t fz)) {xs ys:List Int} (hxb:okXs xs) (hyb:okXs ys) {v w:Value} (raw:ByteArray) (c:Bool)
  (hv:VR ⟨fun _=>none,fun b=>W.heap[b]?⟩ (.lst false 1 (xs.map i0)) v) (hw:VR ⟨fun _=>none,fun b=>W.heap[b]?⟩ (.lst false 1 (ys.map i0)) w) :
  Calls Tryz.prog zaaZ #[v,.string raw,.bool c,w] W fun e W'=>e = .returned (.bool true)/\W'.os=W.os/\W'.tape=W.tape/\W'.output=W.output/\W.heap.size<=W'.heap.size/\∀ b,b<W.heap.size->W'.heap[b]?=W.heap[b]?:=by
 obtain ⟨X,os,hX,hp,hg⟩:=zavi xs ys hxb hyb raw c
 have hP:X.px.P=Tryz.prog:=by rw [hp];rfl
 have hgl:X.px.gl=glE:=by rw [hp];rfl
 have:=zaoD hX (d:=12) (f:=zaaZ) (fn:=fn zaaZ) (code:=code zaaZ) (by rw [hP];exact fnOk zaaZ (by kernel_rfl)) (show (fn zaaZ).body=some (code zaaZ) by kernel_rfl) (by kernel_rfl) hg (m:=fun b=>W.heap[b]?) (w:=W) (fun b o h=>h) (by
  rw [hgl]
  exact zaxM h m1 m2 m3 hh) (vals:=[v,.string raw,.bool c,w]) (.vcons hv (.vcons (.lit _) (.vcons (.lit _) (.vcons hw .vnil))))
 rw [hP] at this
 exact this
end
end Go.Proofs.YtpofhijgccocpaaGreatDoor
end
