/- Contracts: what may be handed in, and what is handed back then. -/
import Derived.Test.YtpofhijgccocpaaGreatDoorAWk
namespace Go.AS
noncomputable section
structure Back where
 x:AV
 σ:Hp
 ws:List Nat
structure Alt (β:Type) where
 ι:Type
 pre:ι->Prop
 out:ι->β
abbrev Con:=List AV->Hp->List (Alt Back)
inductive Orc where
 | z
 | t (o:Orc)
 | f (o:Orc)
 | s (x y:Orc)
 | alt (k:Nat) (o:Orc)
 | alts (x y:Orc)
inductive NeedOrc (b:Bool):Prop
inductive NeedAlt:Prop
def askA {β:Type}:List (Alt β)->Orc->(Orc->β->Prop)->Prop
 | [],_,_=>False
 | a::r,os,K=>match r with
  | []=>∃ i,a.pre i/\K os (a.out i)
  | _::_=>match os with
   | .alt k o=>match k with
    | 0=>∃ i,a.pre i/\K o (a.out i)
    | k+1=>match r with
     | [b]=>match k with
      | 0=>∃ i,b.pre i/\K o (b.out i)
      | _=>False
     | _=>askA r (.alt k o) K
   | .alts x y=>(∃ i,a.pre i/\K x (a.out i))∨askA r y K
   | _=>NeedAlt
theorem zagX {β:Type}:∀ {as:List (Alt β)} {os:Orc} {K:Orc->β->Prop},askA as os K->∃ a∈as,∃ i os',a.pre i/\K os' (a.out i)
 | [],_,_,h=>h.elim
 | a::r,os,K,h=>by
  unfold askA at h
  split at h
  · obtain ⟨i,h1,h2⟩:=h;exact ⟨a,List.mem_cons_self ..,i,_,h1,h2⟩
  · split at h
    · split at h
      · obtain ⟨i,h1,h2⟩:=h;exact ⟨a,List.mem_cons_self ..,i,_,h1,h2⟩
      · split at h
        · next heq =>
          cases heq
          split at h
          · obtain ⟨i,h1,h2⟩:=h;exact ⟨_,List.mem_cons_of_mem _ (List.mem_cons_self ..),i,_,h1,h2⟩
          · exact h.elim
        · obtain ⟨b,h0,h1⟩:=zagX h;exact ⟨b,List.mem_cons_of_mem _ h0,h1⟩
    · rcases h with ⟨i,h1,h2⟩|h
      · exact ⟨a,List.mem_cons_self ..,i,_,h1,h2⟩
      · obtain ⟨b,h0,h1⟩:=zagX h;exact ⟨b,List.mem_cons_of_mem _ h0,h1⟩
    · cases h
structure Kept (σ σ':Hp) (ws:List Nat):Prop where
 same:∀ l,l ∉ ws->aget σ' l=aget σ l
 keep:∀ l e,aget σ l=some e->∃ e',aget σ' l=some e'
abbrev GLr (gl:Nat->Option AV)(E:Env):Prop:=∀ g x,gl g=some x->GV E x g
def Canon (E:Env)(σ:Hp):Prop:=∀ j:Nat,(∀ l e,aget σ l=some e->e.id≠[j,0])->Fresh E [j,0]
def zauJ (P:Program)(gl:Nat->Option AV)(f:FuncId)(xs:List AV)(σ:Hp)(K:Orc->Back->Prop):Prop :=
 ∀ E w vals,GLr gl E->Holds E σ w->(∀ k,1<=k->Fresh E [k])->Canon E σ->RR E .vs xs vals ->
  Does P f vals.toArray w fun v w'=>∃ os r E',K os r/\Kept σ r.σ r.ws/\VR E' r.x v/\Holds E' r.σ w'/\Adv E σ w E' r.σ w'
abbrev FOk (P:Program)(gl:Nat->Option AV)(f:FuncId)(xs:List AV)(σ:Hp)(r:Back):Prop:=zauJ P gl f xs σ fun _ r'=>r'=r
def zagZ (P:Program)(gl:Nat->Option AV)(f:FuncId)(con:Con):Prop:=∀ xs σ,∀ a∈con xs σ,∀ i,a.pre i->FOk P gl f xs σ (a.out i)
def zaqW (xs:List AV)(σ:Hp):Option (List Mv × Hp × List AV) :=
 let M:=inM σ (reach σ 100000 (zafx xs) []) 0
 match chkM M with
 | true=>match cvH σ M M,AV.cvs M xs with
  | some σc,some ys=>some (M,σc,ys)
  | _,_=>none
 | false=>none
variable {xs:List AV} {σ σc:Hp} {f:FuncId} {p:Id}
theorem zadI {M:List Mv}{ys:List AV}(h:zaqW xs σ=some (M,σc,ys)) :
  ∃ ls,M=inM σ ls 0/\Sound (inM σ ls 0)/\cvH σ (inM σ ls 0) (inM σ ls 0)=some σc/\AV.cvs (inM σ ls 0) xs=some ys:=by
 unfold zaqW at h
 simp only at h
 split at h
 · rename_i hk
   split at h
   · rename_i h1 h2;cases h;exact ⟨_,rfl,zacj hk,h1,h2⟩
   · cases h
 · cases h
theorem zasU {E:Env}{ls:List Nat}(hs:Sound (inM σ ls 0))(hc:cvH σ (inM σ ls 0) (inM σ ls 0)=some σc):Canon (zafh E (inM σ ls 0)) σc:=by
 intro j hj i hi
 simp only [zafh]
 cases h:mvTo (inM σ ls 0) i with
 | none=>rfl
 | some m =>
  exfalso
  obtain ⟨h1,h2⟩:=zaiu h
  obtain ⟨_,_,t,h3⟩:=zacr h1
  obtain ⟨e,he⟩:=zafd hc h1
  obtain ⟨q,q1,q2,q3,_⟩:=zadj hc he
  have b1:=hs.back m h1
  have b2:=hs.back q q1
  rw [q2] at b2
  rw [b1] at b2
  have hb:m.back=q.back:=Option.some.inj b2
  have hi':m.i'=q.i':=congrArg Mv.i hb
  refine hj m.l' e he ?_
  rw [q3,<-hi',h2]
  rw [h3] at h2
  rw [<-h2] at hi ⊢
  obtain ⟨x,hx⟩:=hi
  cases x with
  | nil=>exact hx.symm
  | cons a x =>
   have:=congrArg List.length hx
   simp at this
theorem zam3 {P:Program} {gl:Nat->Option AV} (hgl:∀ g x,gl g=some x->∀ M,x.cv M=some x) {M:List Mv} {ys:List AV} (hin:zaqW xs σ=some (M,σc,ys))
  {K':Orc->Back->Prop} (hc:zauJ P gl f ys σc K') {K:Orc->Res->Prop} (hK:∀ os r,K' os r->∃ fc q,retF fc p M r.x r.σ r.ws=some q/\(∀ l,hasN fc l=true->l∈r.ws)/\K os q)
  {E:Env} {w:World} {vals:List Value} (hg:GLr gl E) (hh:Holds E σ w) (hp:Fresh E p) (hv:RR E .vs xs vals) :
  Does P f vals.toArray w fun v w'=>∃ os q E',K os q/\VR E' q.x v/\Holds E' (σ.app q.upd) w'/\Adv E σ w E' (σ.app q.upd) w'/\zac6 E E' p:=by
 obtain ⟨ls,rfl,hsd,hσc,hys⟩:=zadI hin
 have hmv:=zadd (E:=E) hsd
 have hvc:RR (zafh E (inM σ ls 0)) .vs ys vals:=hv.cv hmv hys
 refine Does.imp (hc (zafh E (inM σ ls 0)) w vals (fun g x hx=>GV.cv hmv (hg g x hx) (hgl g x hx _)) (zagC hh hsd hσc) (fun k hk=>zagD hk) (zasU hsd hσc) hvc) ?_
 rintro v w' ⟨os,r,E1,k0,kk,k1,k2,k3⟩
 obtain ⟨fc,q,hr,hfc,hKq⟩:=hK os r k0
 obtain ⟨news,u1,u2,q2,q3,q4,q5,q6⟩:=zaes hr
 obtain ⟨r1,r2,r3,r4⟩:=zadJ hh hp hsd hσc k2 k3 kk.same hfc (zacj q2) q3 q4 fun mm hm=>by
  obtain ⟨e0,he0⟩:=zafd hσc hm
  exact kk.keep _ _ he0
 exact ⟨os,q,_,hKq,k1.cv r4 q5,by rw [q6];exact r1,by rw [q6];exact r2,r3⟩
def askG (con:Con)(os:Orc)(p:Id)(xs:List AV)(σ:Hp)(K:Orc->Res->Prop):Prop :=
 match zaqW xs σ with
 | some (M,σc,ys)=>askA (con ys σc) os fun os r=>match retF [] p M r.x r.σ r.ws with
  | some q=>K os q
  | none=>False
 | none=>False
def Picks (con:Con)(p:Id)(xs:List AV)(σ:Hp)(q:Res):Prop :=
 ∃ M σc ys,zaqW xs σ=some (M,σc,ys)/\∃ a∈con ys σc,∃ i,a.pre i/\retF [] p M (a.out i).x (a.out i).σ (a.out i).ws=some q
theorem zahV {con:Con}{os:Orc}{K:Orc->Res->Prop}(h:askG con os p xs σ K):∃ os' q,Picks con p xs σ q/\K os' q:=by
 unfold askG at h
 split at h
 · rename_i M σc ys hin
   obtain ⟨a,ha,i,os',hp,h⟩:=zagX h
   split at h
   · rename_i q hq;exact ⟨os',q,⟨M,σc,ys,hin,a,ha,i,hp,hq⟩,h⟩
   · exact h.elim
 · exact h.elim
theorem zalJ {P:Program} {gl:Nat->Option AV} (hgl:∀ g x,gl g=some x->∀ M,x.cv M=some x) {con:Con} (hc:zagZ P gl f con) {q:Res} (h:Picks con p xs σ q)
  {E:Env} {w:World} {vals:List Value} (hg:GLr gl E) (hh:Holds E σ w) (hp:Fresh E p) (hv:RR E .vs xs vals) :
  Does P f vals.toArray w fun v w'=>∃ E',VR E' q.x v/\Holds E' (σ.app q.upd) w'/\Adv E σ w E' (σ.app q.upd) w'/\zac6 E E' p:=by
 obtain ⟨M,σc,ys,hin,a,ha,i,hpre,hq⟩:=h
 refine Does.imp (zam3 hgl hin (hc _ _ a ha i hpre) (K:=fun _ q'=>q'=q) (fun os r hr=>⟨[],q,by rw [hr];exact hq,fun l hl=>(by cases hl),rfl⟩) hg hh hp hv) ?_
 rintro v w' ⟨_,q',E',rfl,h⟩
 exact ⟨E',h⟩
def genC (con:Con):Ct := .gen fun p _ xs σ K=>∃ q,Picks con p xs σ q/\K q.x q.upd
theorem zaxN {C:Cx}(hgl:∀ g x,C.gl g=some x->∀ M,x.cv M=some x){con:Con}(hc:zagZ C.P C.gl f con):CtOk C f (genC con):=by
 intro p d xs σ K hk E w vals hg hh hp hv
 obtain ⟨q,h1,h2⟩:=hk
 refine Does.imp (zalJ hgl hc h1 hg hh hp hv) ?_
 rintro v w' ⟨E',h⟩
 exact ⟨E',q.x,q.upd,h2,h⟩
end
end Go.AS
