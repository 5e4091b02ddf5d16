/- Pieces that nobody will write any more: they stand in the value that is handed back. -/
import Derived.Test.YtpofhijgccocpaaGreatDoorAWs
namespace Go.AS
noncomputable section
def zarI (i:Id)(o:AObj)(i':Id)(k s:Nat):Option (AV × List Prop):=match idEq i' i with
 | true=>match o with
  | .row true _ xs=>match s with
   | 0=>match xs[k]? with
    | some z=>some (.ref z,[])
    | none=>none
   | _=>none
  | _=>none
 | false=>none
def zanQ (i:Id)(o:AObj)(i':Id)(off len:Nat):Option (AV × List Prop):=match idEq i' i with
 | true=>match o with
  | .row true sz xs=>some (.lst false sz ((xs.drop off).take len),[off+len<=xs.length])
  | _=>none
 | false=>none
def zaB8 (i:Id)(o:AObj)(i':Id):Option (AV × List Prop):=match idEq i' i with
 | true=>match o with
  | .map true ks vs=>some (.mpv ks vs,[])
  | _=>none
 | false=>none
mutual
def subA (l:Nat)(i:Id)(o:AObj):AV->Option (AV × List Prop)
 | .ptr l' i' k s=>match Nat.beq l' l with
  | true=>zarI i o i' k s
  | false=>some (.ptr l' i' k s,[])
 | .slc l' i' off len=>match Nat.beq l' l with
  | true=>zanQ i o i' off len
  | false=>some (.slc l' i' off len,[])
 | .mp l' i'=>match Nat.beq l' l with
  | true=>zaB8 i o i'
  | false=>some (.mp l' i',[])
 | .iface t x=>match subA l i o x with
  | some (y,ps)=>some (.iface t y,ps)
  | none=>none
 | .agg xs=>match zafm l i o xs with
  | some (ys,ps)=>some (.agg ys,ps)
  | none=>none
 | .tup xs=>match zafm l i o xs with
  | some (ys,ps)=>some (.tup ys,ps)
  | none=>none
 | .fn g xs ys=>match zafm l i o xs,zafm l i o ys with
  | some (as,ps),some (bs,qs)=>some (.fn g as bs,ps++qs)
  | _,_=>none
 | .lit v=>some (.lit v,[])
 | .ref x=>some (.ref x,[])
 | .lst ex sz xs=>some (.lst ex sz xs,[])
 | .mpv ks vs=>some (.mpv ks vs,[])
def zafm (l:Nat)(i:Id)(o:AObj):List AV->Option (List AV × List Prop)
 | []=>some ([],[])
 | x::xs=>match subA l i o x,zafm l i o xs with
  | some (y,ps),some (ys,qs)=>some (y::ys,ps++qs)
  | _,_=>none
end
variable {l:Nat} {i:Id} {o:AObj} {x:AV} {E E0:Env} {σ σ0:Hp} {w w0:World}
theorem zacn {r:List AV × List Prop}(h:zafm l i o []=some r):r=([],[]):=by rw [zafm] at h;cases h;rfl
theorem zacb {xs:List AV}{r:List AV × List Prop}(h:zafm l i o (x::xs)=some r) :
  ∃ y ps ys qs,subA l i o x=some (y,ps)/\zafm l i o xs=some (ys,qs)/\r=(y::ys,ps++qs):=by grind [zafm]
theorem zaa9 {r:List AV × List Prop}(h:zafm l i o [x]=some r):∃ y ps,subA l i o x=some (y,ps)/\r=([y],ps):=by
 obtain ⟨y,ps,ys,qs,h1,h2,rfl⟩:=zacb h
 cases zacn h2;exact ⟨y,ps,h1,by simp⟩
theorem zaeI {l:Nat}{i:Id}{o:AObj}:∀ {xs:List AV} {r:List AV × List Prop},zafm l i o xs=some r->r.1.length=xs.length
 | [],r,h=>by rw [zacn h]
 | x::xs,r,h=>by obtain ⟨y,ps,ys,qs,_,h2,rfl⟩:=zacb h;have:=zaeI h2;simp at this ⊢;exact this
mutual
theorem zalg {l:Nat}{i:Id}{o:AObj}:∀ (x:AV) {r:AV × List Prop},subA l i o x=some r->r.1.fsz=x.fsz
 | .lit v,r,h=>by rw [subA] at h;cases h;rfl
 | .ref _,r,h=>by rw [subA] at h;cases h;rfl
 | .lst ..,r,h=>by rw [subA] at h;cases h;rfl
 | .mpv ..,r,h=>by rw [subA] at h;cases h;rfl
 | .ptr ..,r,h=>by
  rw [subA] at h;split at h
  · unfold zarI at h;repeat' split at h
    all_goals first|(cases h;done)|(cases h;simp [AV.fsz])
  · cases h;simp [AV.fsz]
 | .slc ..,r,h=>by
  rw [subA] at h;split at h
  · unfold zanQ at h;repeat' split at h
    all_goals first|(cases h;done)|(cases h;simp [AV.fsz])
  · cases h;simp [AV.fsz]
 | .mp ..,r,h=>by
  rw [subA] at h;split at h
  · unfold zaB8 at h;repeat' split at h
    all_goals first|(cases h;done)|(cases h;simp [AV.fsz])
  · cases h;simp [AV.fsz]
 | .iface _ x,r,h=>by rw [subA] at h;split at h<;>cases h;simp [AV.fsz]
 | .tup _,r,h=>by rw [subA] at h;split at h<;>cases h;simp [AV.fsz]
 | .fn ..,r,h=>by rw [subA] at h;split at h<;>cases h;simp [AV.fsz]
 | .agg xs,r,h=>by
  rw [subA] at h;split at h
  · rename_i ys ps hy;cases h;rw [AV.fsz,AV.fsz];exact zaha xs hy
  · cases h
theorem zaha {l:Nat}{i:Id}{o:AObj}:∀ (xs:List AV) {r:List AV × List Prop},zafm l i o xs=some r->AV.fszs r.1=AV.fszs xs
 | [],r,h=>by rw [zacn h]
 | x::xs,r,h=>by
  obtain ⟨y,ps,ys,qs,h1,h2,rfl⟩:=zacb h
  have e1:=zalg x h1
  have e2:=zaha xs h2
  simp only [AV.fszs] at e1 e2 ⊢;rw [e1,e2]
end
theorem zajf {l:Nat}{i:Id}{o:AObj}:∀ {xs:List AV} {r:List AV × List Prop},zafm l i o xs=some r->∀ y∈r.1,∃ x∈xs,y.fsz=x.fsz
 | [],r,h,y,hy=>by rw [zacn h] at hy;cases hy
 | x::xs,r,h,y,hy=>by
  obtain ⟨z,ps,ys,qs,h1,h2,rfl⟩:=zacb h
  rcases List.mem_cons.1 hy with rfl|hy
  · exact ⟨x,List.mem_cons_self ..,zalg x h1⟩
  · obtain ⟨x',h3,h4⟩:=zajf h2 y hy;exact ⟨x',List.mem_cons_of_mem _ h3,h4⟩
def Stands (E E2:Env)(i:Id)(o:AObj):Prop :=
 E.le E2/\∀ L,E.ρ i=some L->match o,L with
  | .row true sz xs,.at b base sz' _=>sz'=sz/\∃ c t fz cs rest,E2.m b=some (.cells c t fz)/\RR E2.pure .cs xs cs/\c.toList.drop base=cs++rest/\(∀ x∈xs,x.fsz=sz)/\∀ u∈cs,u.oneCell'=true
  | .row true _ xs,.ghost=>xs=[]
  | .map true ks vs,.at b _ _ _=>∃ es clock us,E2.m b=some (.map es clock)/\es.toList.map (·.key)=ks/\es.toList.map (·.val)=us/\RR E2.pure .vs vs us
  | .map _ _ _,.ghost=>False
  | _,_=>True
theorem zagg {E2:Env}(hst:Stands E E2 i o){md:Md}{xs:List AV}{vs:List Value}(h:RR E md xs vs):∀ {r:List AV × List Prop},zafm l i o xs=some r->(∀ p∈r.2,p)->RR E2 md r.1 vs:=by
 induction h with
 | lit v=>intro r h _;obtain ⟨y,ps,h1,rfl⟩:=zaa9 h;rw [subA] at h1;cases h1;exact .lit v
 | ref h hx hc _=>intro r h' _;obtain ⟨y,ps,h1,rfl⟩:=zaa9 h';rw [subA] at h1;cases h1;exact .ref (hst.1.m _ _ h) (hx.mono hst.1.pure) hc
 | lstE sz a h=>intro r h' _;obtain ⟨y,ps,h1,rfl⟩:=zaa9 h';rw [subA] at h1;cases h1;exact .lstE sz a h
 | lst h hx hc hs hn h1 he ho _=>intro r h' _;obtain ⟨y,ps,h2,rfl⟩:=zaa9 h';rw [subA] at h2;cases h2;exact .lst (hst.1.m _ _ h) (hx.mono hst.1.pure) hc hs hn h1 he ho
 | mpv h hk hu hv _=>intro r h' _;obtain ⟨y,ps,h2,rfl⟩:=zaa9 h';rw [subA] at h2;cases h2;exact .mpv (hst.1.m _ _ h) hk hu (hv.mono hst.1.pure)
 | ptr l' k s h =>
  rename_i E i' b base sz cap
  intro r h' _;obtain ⟨y,ps,h1,rfl⟩:=zaa9 h'
  rw [subA] at h1
  split at h1
  · unfold zarI at h1
    split at h1
    · rename_i hi
      split at h1
      · rename_i sz' xs
        split at h1
        · split at h1
          · rename_i z hz;cases h1
            have:=hst.2 _ (by rw [<-zaaO hi];exact h)
            simp only at this
            obtain ⟨rfl,c,t,fz,cs,rest,g1,g2,g3,g4,g5⟩:=this
            obtain ⟨u,q1,rr,q2,q3⟩:=g2.cs_elem g4 hz
            have hlt:k<xs.length:=by rw [List.getElem?_eq_some_iff] at hz;exact hz.1
            have hle:k*sz<=cs.length:=by rw [g2.cs_length,AV.fszs_uniform g4];exact Nat.mul_le_mul_right _ (by omega)
            refine .ref (rest:=rr++rest) g1 (RR.cs_one q1) ?_
            rw [Nat.add_zero,<-List.drop_drop,g3,List.drop_append_of_le_length hle,q2];simp
          · cases h1
        · cases h1
      · cases h1
    · cases h1
  · cases h1;exact .ptr l' k s (hst.1.ρ _ _ h)
 | slc l' h h1 h2 =>
  rename_i E i' off len c b base sz cap
  intro r h' hp;obtain ⟨y,ps,h3,rfl⟩:=zaa9 h'
  rw [subA] at h3
  split at h3
  · unfold zanQ at h3
    split at h3
    · rename_i hi
      split at h3
      · rename_i sz' xs;cases h3
        have:=hst.2 _ (by rw [<-zaaO hi];exact h)
        simp only at this
        obtain ⟨rfl,cc,t,fz,cs,rest,g1,g2,g3,g4,g5⟩:=this
        have hlen:off+len<=xs.length:=hp _ (List.mem_singleton.2 rfl)
        have e1:xs=xs.take off++((xs.drop off).take len++(xs.drop off).drop len):=by rw [List.take_append_drop,List.take_append_drop]
        rw [e1] at g2
        obtain ⟨c1,c23,rfl,k1,k2⟩:=g2.cs_append_inv
        obtain ⟨c2,c3,rfl,k3,k4⟩:=k2.cs_append_inv
        have hl1:c1.length=off*sz:=by
          rw [k1.cs_length,AV.fszs_uniform fun y hy=>g4 y (List.mem_of_mem_take hy),List.length_take,Nat.min_eq_left (by omega)]
        refine .lst (rest:=c3++rest) g1 k3 ?_ (fun y hy=>g4 y (List.mem_of_mem_drop (List.mem_of_mem_take hy))) (by simp;omega) h1 (fun h=>by cases h) (fun u hu=>g5 u (by simp [hu]))
        rw [<-List.drop_drop,g3,<-hl1,List.append_assoc,List.drop_left];simp
      · cases h3
    · cases h3
  · cases h3;exact .slc l' (hst.1.ρ _ _ h) h1 h2
 | slcZ l' off a h =>
  intro r h' hp;obtain ⟨y,ps,h3,rfl⟩:=zaa9 h'
  rw [subA] at h3
  split at h3
  · unfold zanQ at h3
    split at h3
    · split at h3
      · cases h3
        simp only [List.take_zero]
        exact .lstE _ a (fun h=>by cases h)
      · cases h3
    · cases h3
  · cases h3;exact .slcZ l' off a (hst.1.ρ _ _ h)
 | mp l' h =>
  intro r h' hp;obtain ⟨y,ps,h3,rfl⟩:=zaa9 h'
  rw [subA] at h3
  split at h3
  · unfold zaB8 at h3
    split at h3
    · rename_i hi
      split at h3
      · rename_i ks us;cases h3
        have:=hst.2 _ (by rw [<-zaaO hi];exact h)
        simp only at this
        obtain ⟨es,clock,us',g1,g2,g3,g4⟩:=this
        exact .mpv g1 g2 g3 g4
      · cases h3
    · cases h3
  · cases h3;exact .mp l' (hst.1.ρ _ _ h)
 | fn g _ _ i1 i2 =>
  intro r h' hp;obtain ⟨y,ps,h3,rfl⟩:=zaa9 h'
  rw [subA] at h3
  split at h3
  · rename_i as ps bs qs h4 h5;cases h3
    exact .fn g (i1 hst h4 fun p hp'=>hp p (List.mem_append_left _ hp')) (i2 hst h5 fun p hp'=>hp p (List.mem_append_right _ hp'))
  · cases h3
 | iface t _ ih =>
  intro r h' hp;obtain ⟨y,ps,h3,rfl⟩:=zaa9 h'
  rw [subA] at h3
  split at h3
  · rename_i z qs hz;cases h3
    exact .iface t (ih hst (r:=([z],ps)) (by simp [zafm,hz]) hp)
  · cases h3
 | agg _ ih =>
  intro r h' hp;obtain ⟨y,ps,h3,rfl⟩:=zaa9 h'
  rw [subA] at h3
  split at h3
  · rename_i zs qs hz;cases h3;exact .agg (ih hst hz hp)
  · cases h3
 | tup _ ih =>
  intro r h' hp;obtain ⟨y,ps,h3,rfl⟩:=zaa9 h'
  rw [subA] at h3
  split at h3
  · rename_i zs qs hz;cases h3;exact .tup (ih hst hz hp)
  · cases h3
 | vnil=>intro r h _;cases zacn h;exact .vnil
 | vcons _ _ i1 i2 =>
  intro r h hp;obtain ⟨y,ps,ys,qs,h1,h2,rfl⟩:=zacb h
  exact .vcons (i1 hst (r:=([y],ps)) (by simp [zafm,h1]) fun p hp'=>hp p (List.mem_append_left _ hp')) (i2 hst h2 fun p hp'=>hp p (List.mem_append_right _ hp'))
 | cnil=>intro r h _;cases zacn h;exact .cnil
 | ccons _ _ i1 i2 =>
  intro r h hp;obtain ⟨y,ps,ys,qs,h1,h2,rfl⟩:=zacb h
  exact .ccons (i1 hst (r:=([y],ps)) (by simp [zafm,h1]) fun p hp'=>hp p (List.mem_append_left _ hp')) (i2 hst h2 fun p hp'=>hp p (List.mem_append_right _ hp'))
def AllP:List Prop->Prop->Prop
 | [],K=>K
 | p::ps,K=>p/\AllP ps K
theorem zann:∀ {ps:List Prop} {K:Prop},AllP ps K->(∀ p∈ps,p)/\K
 | [],K,h=>⟨fun p hp=>(by cases hp),h⟩
 | q::ps,K,⟨h1,h2⟩=>by
  obtain ⟨h3,h4⟩:=zann h2
  exact ⟨fun p hp=>(List.mem_cons.1 hp).elim (fun e=>e ▸ h1) (h3 p),h4⟩
def subH (l:Nat)(i:Id)(o:AObj):List Nat->Hp->Option (Hp × List Prop)
 | [],σ=>some (σ,[])
 | c::cs,σ=>match Nat.beq c l with
  | true=>subH l i o cs σ
  | false=>match aget σ c with
   | some e=>match e.obj with
    | .row false sz xs=>match zafm l i o xs with
     | some (ys,ps)=>match subH l i o cs (aset σ c ⟨e.id,.row (zaaD ys) sz ys⟩) with
      | some (τ,qs)=>some (τ,ps++qs)
      | none=>none
     | none=>none
    | .map false ks xs=>match zafm l i o xs with
     | some (ys,ps)=>match subH l i o cs (aset σ c ⟨e.id,.map (zaaD ys) ks ys⟩) with
      | some (τ,qs)=>some (τ,ps++qs)
      | none=>none
     | none=>none
    | _=>subH l i o cs σ
   | none=>subH l i o cs σ
theorem Holds.view (hh:Holds E σ w){e:Ent}(he:aget σ l=some e)(ho:∀ L,E.ρ e.id=some L->ObjR E w e.obj L->ObjR E w o L) :
  Holds E (aset σ l ⟨e.id,o⟩) w/\∀ b,Own E (aset σ l ⟨e.id,o⟩) b->Own E σ b:=by
 have hown:∀ b,Own E (aset σ l ⟨e.id,o⟩) b->Own E σ b:=fun b hb=>by
  rcases zaeT hb with ⟨L,h1,h2⟩|h1
  · exact ⟨l,e,L,he,h1,h2⟩
  · exact h1
 refine ⟨⟨hh.imm,fun l' e' h => ?_,fun b hb=>hh.apart b (hown b hb),fun l1 l2 e1 e2 L1 L2 b h1 h2 => ?_⟩,hown⟩
 · rw [zaad] at h
   split at h
   · cases h
     obtain ⟨L,h1,h2⟩:=hh.own l e he
     exact ⟨L,h1,ho L h1 h2⟩
   · exact hh.own l' e' h
 · rw [zaad] at h1 h2
   split at h1<;>split at h2
   · intros;subst_vars;rfl
   · rename_i a1 _;cases h1;subst a1;exact fun h3 h4 h5 h6=>hh.inj _ _ e e2 L1 L2 b he h2 h3 h4 h5 h6
   · rename_i a2;cases h2;subst a2;exact fun h3 h4 h5 h6=>hh.inj _ _ e1 e L1 L2 b h1 he h3 h4 h5 h6
   · exact hh.inj _ _ _ _ _ _ _ h1 h2
theorem zaeH {E2:Env}{w:World}{l:Nat}{i:Id}{o:AObj}(hst:Stands E2 E2 i o):∀ {cs:List Nat} {σ:Hp} {r:Hp × List Prop},subH l i o cs σ=some r->(∀ p∈r.2,p)->Holds E2 σ w ->
  Holds E2 r.1 w/\(∀ b,Own E2 r.1 b->Own E2 σ b)/\(∀ j,j ∉ cs->aget r.1 j=aget σ j)/\∀ j e,aget σ j=some e->∃ e',aget r.1 j=some e'
 | [],σ,r,h,_,hh=>by cases h;exact ⟨hh,fun _ h=>h,fun _ _=>rfl,fun _ e h=>⟨e,h⟩⟩
 | c::cs,σ,r,h,hp,hh=>by
  have skip:∀ {r:Hp × List Prop},subH l i o cs σ=some r->(∀ p∈r.2,p)->Holds E2 r.1 w/\(∀ b,Own E2 r.1 b->Own E2 σ b)/\(∀ j,j ∉ c::cs->aget r.1 j=aget σ j)/\∀ j e,aget σ j=some e->∃ e',aget r.1 j=some e':=fun h hp=>by
   obtain ⟨h1,h2,h3,h4⟩:=zaeH hst h hp hh
   exact ⟨h1,h2,fun j hj=>h3 j fun hj'=>hj (List.mem_cons_of_mem _ hj'),h4⟩
  have turn:∀ {e:Ent} {o':AObj} {ps qs:List Prop} {τ:Hp},aget σ c=some e->(∀ p∈ps++qs,p)->subH l i o cs (aset σ c ⟨e.id,o'⟩)=some (τ,qs)->(∀ L,ObjR E2 w e.obj L->ObjR E2 w o' L) ->
    Holds E2 τ w/\(∀ b,Own E2 τ b->Own E2 σ b)/\(∀ j,j ∉ c::cs->aget τ j=aget σ j)/\∀ j e,aget σ j=some e->∃ e',aget τ j=some e':=fun he hp hs ho=>by
   obtain ⟨k1,k2⟩:=hh.view he fun L _=>ho L
   obtain ⟨h1,h2,h3,h4⟩:=zaeH hst hs (fun p hp'=>hp p (List.mem_append_right _ hp')) k1
   refine ⟨h1,fun b hb=>k2 b (h2 b hb),fun j hj => ?_,fun j e hj => ?_⟩
   · rw [h3 j fun hj'=>hj (List.mem_cons_of_mem _ hj'),zaad,if_neg fun hj'=>hj (by rw [hj'];exact List.mem_cons_self ..)]
   · by_cases hjc:j=c
     · exact h4 j _ (by rw [zaad,if_pos hjc])
     · exact h4 j e (by rw [zaad,if_neg hjc];exact hj)
  unfold subH at h
  split at h
  · exact skip h hp
  · split at h
    · rename_i e he
      split at h
      · rename_i sz xs hobj
        split at h
        · rename_i ys ps hys
          split at h
          · rename_i τ qs hτ;cases h
            refine turn he hp hτ fun L hL => ?_
            rw [hobj] at hL
            cases hL with
            | row h1 hx hc hs hn hb hf ho =>
              have:=(zagg hst hx hys fun p hp'=>hp p (List.mem_append_left _ hp')).sel_of
              refine .row h1 this hc (fun y hy => ?_) (by rw [zaeI hys];exact hn) hb hf ho
              obtain ⟨x,g1,g2⟩:=zajf hys y hy
              rw [g2];exact hs x g1
            | ghost=>cases zacn hys;exact .ghost _ _
          · cases h
        · cases h
      · rename_i ks xs hobj
        split at h
        · rename_i ys ps hys
          split at h
          · rename_i τ qs hτ;cases h
            refine turn he hp hτ fun L hL => ?_
            rw [hobj] at hL
            cases hL with
            | map h1 hk hu hv hb hd=>exact .map h1 hk hu (zagg hst hv hys fun p hp'=>hp p (List.mem_append_left _ hp')).sel_of hb hd
          · cases h
        · cases h
      · exact skip h hp
    · exact skip h hp
theorem zaAi (hh:Holds E σ w)(ha:Adv E0 σ0 w0 E σ w){e:Ent}(he:aget σ l=some e){pu:(∃ sz xs,e.obj = .row true sz xs)∨∃ ks vs,e.obj = .map true ks vs} :
  ∃ E2,Stands E E2 e.id e.obj/\Stands E2 E2 e.id e.obj/\Holds E2 (adel σ l) w/\Adv E0 σ0 w0 E2 (adel σ l) w/\E2.ρ=E.ρ:=by
 obtain ⟨L,hL,hob⟩:=hh.own l e he
 have gone:Holds E (adel σ l) w/\Adv E σ w E (adel σ l) w:=by
  have hsub:∀ l' e',aget (adel σ l) l'=some e'->aget σ l'=some e':=fun l' e' h=>by
   rw [zabR] at h;split at h
   · cases h
   · exact h
  exact ⟨hh.sub hsub,(Adv.refl E σ w).sub hsub⟩
 rcases pu with ⟨sz,xs,ho⟩|⟨ks,vs,ho⟩
 · rw [ho] at hob
   cases hob with
   | row h1 hx hc hs hn hb hf h1c =>
     rename_i b base cap c t fz cs rest
     obtain ⟨k1,k2⟩:=hh.freeze he hL rfl h1
     have hm:(E.mem b (.cells c t fz)).m b=some (.cells c t fz):=by simp [Env.mem]
     have use:Stands E (E.mem b (.cells c t fz)) e.id e.obj:=⟨k2.le,fun L' hL'=>by
       rw [hL] at hL';cases hL'
       rw [ho]
       exact ⟨rfl,c,t,fz,cs,rest,hm,hx.mono k2.le.pure,hc,hs,h1c⟩⟩
     exact ⟨_,use,⟨Env.le_refl _,use.2⟩,k1,ha.trans k2,rfl⟩
   | ghost =>
     have use:Stands E E e.id e.obj:=⟨E.le_refl,fun L' hL'=>by
       rw [hL] at hL';cases hL'
       rw [ho]⟩
     exact ⟨E,use,use,gone.1,ha.trans gone.2,rfl⟩
 · rw [ho] at hob
   cases hob with
   | map h1 hk hu hv hb hd =>
     rename_i b base sz cap es clock us
     obtain ⟨k1,k2⟩:=hh.freeze he hL rfl h1
     have hm:(E.mem b (.map es clock)).m b=some (.map es clock):=by simp [Env.mem]
     have use:Stands E (E.mem b (.map es clock)) e.id e.obj:=⟨k2.le,fun L' hL'=>by
       rw [hL] at hL';cases hL'
       rw [ho]
       exact ⟨es,clock,us,hm,hk,hu,hv.mono k2.le.pure⟩⟩
     exact ⟨_,use,⟨Env.le_refl _,use.2⟩,k1,ha.trans k2,rfl⟩
def zauT (σ0 σ:Hp):List Nat->Option (Nat × Ent)
 | []=>none
 | l::r=>match aget σ0 l with
  | some _=>zauT σ0 σ r
  | none=>match aget σ l with
   | some e=>match e.obj with
    | .row true _ _=>some (l,e)
    | .map true _ _=>some (l,e)
    | _=>zauT σ0 σ r
   | none=>zauT σ0 σ r
theorem zadw {σ0 σ:Hp}:∀ {ls:List Nat} {l:Nat} {e:Ent},zauT σ0 σ ls=some (l,e)->aget σ0 l=none/\aget σ l=some e/\((∃ sz xs,e.obj = .row true sz xs)∨∃ ks vs,e.obj = .map true ks vs)
 | [],_,_,h=>by cases h
 | m::r,l,e,h=>by
  unfold zauT at h
  split at h
  · exact zadw h
  · rename_i h0
    split at h
    · rename_i e' he
      split at h
      · rename_i ho;cases h;exact ⟨h0,he,.inl ⟨_,_,ho⟩⟩
      · rename_i ho;cases h;exact ⟨h0,he,.inr ⟨_,_,ho⟩⟩
      · exact zadw h
    · exact zadw h
def frzW (σ0:Hp)(ws:List Nat)(olds:List Nat):Nat->AV->Hp->(AV->Hp->Prop)->Prop
 | 0,x,σ,K=>K x σ
 | m+1,x,σ,K=>match zauT σ0 σ (reach σ 100000 (zaxs x++olds) []) with
  | none=>K x σ
  | some (l,e)=>match hasN ws l,subA l e.id e.obj x,subH l e.id e.obj ws σ with
   | true,some (y,ps),some (τ,qs)=>AllP (ps++qs) (frzW σ0 ws olds m y (adel τ l) K)
   | _,_,_=>False
theorem zamv {E0:Env}{σ0:Hp}{w0 w:World}{ws olds:List Nat}{v:Value}{K:AV->Hp->Prop}:∀ {m:Nat} {x:AV} {σ:Hp} {E:Env},frzW σ0 ws olds m x σ K->VR E x v->Holds E σ w->Adv E0 σ0 w0 E σ w->Kept σ0 σ ws ->
  ∃ x' σ' E',K x' σ'/\VR E' x' v/\Holds E' σ' w/\Adv E0 σ0 w0 E' σ' w/\Kept σ0 σ' ws/\E.le E'/\E'.ρ=E.ρ
 | 0,x,σ,E,h,hv,hh,ha,hk=>⟨x,σ,E,h,hv,hh,ha,hk,E.le_refl,rfl⟩
 | m+1,x,σ,E,h,hv,hh,ha,hk=>by
  unfold frzW at h
  split at h
  · exact ⟨x,σ,E,h,hv,hh,ha,hk,E.le_refl,rfl⟩
  · rename_i l e hp
    obtain ⟨h0,he,hpu⟩:=zadw hp
    split at h
    · rename_i y ps τ qs hws hsub hsh
      obtain ⟨hall,h⟩:=zann h
      obtain ⟨E2,s1,s2,s3,s4,s5⟩:=zaAi hh ha he (pu:=hpu)
      have hv2:VR E2 y v:=zagg (l:=l) s1 hv (r:=([y],ps)) (by simp [zafm,hsub]) fun p hp'=>hall p (List.mem_append_left _ hp')
      -- the other pieces
      have key:∃ τ',subH l e.id e.obj ws (adel σ l)=some (τ',qs)/\∀ j,aget (adel τ l) j=aget τ' j:=by
        have gen:∀ (cs:List Nat) (α β:Hp) (r:Hp × List Prop),(∀ j,aget (adel α l) j=aget β j)->subH l e.id e.obj cs α=some r->∃ τ',subH l e.id e.obj cs β=some (τ',r.2)/\∀ j,aget (adel r.1 l) j=aget τ' j:=by
          intro cs
          induction cs with
          | nil=>intro α β r hab h;cases h;exact ⟨β,rfl,hab⟩
          | cons c cs ih =>
            intro α β r hab h
            unfold subH at h ⊢
            cases hcl:Nat.beq c l with
            | true=>rw [hcl] at h;exact ih _ _ _ hab h
            | false =>
              rw [hcl] at h
              have hne:c≠l:=fun e=>by subst e;simp at hcl
              have hget:aget β c=aget α c:=by rw [<-hab c,zabR,if_neg hne]
              simp only [hget] at h ⊢
              split at h
              · rename_i e' he'
                have hab':∀ o',∀ j,aget (adel (aset α c ⟨e'.id,o'⟩) l) j=aget (aset β c ⟨e'.id,o'⟩) j:=fun o' j=>by
                  rw [zabR,zaad,zaad]
                  by_cases hjl:j=l
                  · subst hjl;rw [if_pos rfl,if_neg (Ne.symm hne),<-hab j,zabR,if_pos rfl]
                  · rw [if_neg hjl]
                    by_cases hjc:j=c
                    · rw [if_pos hjc,if_pos hjc]
                    · rw [if_neg hjc,if_neg hjc,<-hab j,zabR,if_neg hjl]
                split at h
                · rename_i sz xs hobj
                  split at h
                  · rename_i ys ps' hys
                    split at h
                    · rename_i τ1 qs1 h1;cases h
                      obtain ⟨τ',g1,g2⟩:=ih _ _ _ (hab' _) h1
                      simp only at g1
                      exact ⟨τ',by simp only [g1],g2⟩
                    · cases h
                  · cases h
                · rename_i ks xs hobj
                  split at h
                  · rename_i ys ps' hys
                    split at h
                    · rename_i τ1 qs1 h1;cases h
                      obtain ⟨τ',g1,g2⟩:=ih _ _ _ (hab' _) h1
                      simp only at g1
                      exact ⟨τ',by simp only [g1],g2⟩
                    · cases h
                  · cases h
                · obtain ⟨τ',g1,g2⟩:=ih _ _ _ hab h
                  exact ⟨τ',g1,g2⟩
              · rename_i he'
                obtain ⟨τ',g1,g2⟩:=ih _ _ _ hab h
                exact ⟨τ',g1,g2⟩
        exact gen ws σ (adel σ l) (τ,qs) (fun _=>rfl) hsh
      obtain ⟨τ',g1,g2⟩:=key
      obtain ⟨r1,r2,r3,r4⟩:=zaeH (w:=w) s2 g1 (fun p hp'=>hall p (List.mem_append_right _ hp')) s3
      have hA:Adv E0 σ0 w0 E2 (adel τ l) w :=
        ⟨s4.le,s4.os,s4.tape,s4.output,s4.size,s4.kept,fun b hb=>s4.ownNew b (r2 b (hb.sub fun j e' hj=>by rw [<-g2 j];exact hj)),s4.mNew⟩
      have hK:Kept σ0 (adel τ l) ws:=⟨fun j hj=>by
        have hjl:j≠l:=fun ej=>hj (by rw [ej];exact zad5.1 hws)
        rw [g2 j,r3 j hj,zabR,if_neg hjl];exact hk.same j hj,fun j e' hj=>by
        have hjl:j≠l:=fun ej=>by rw [ej,h0] at hj;cases hj
        obtain ⟨e1,h1⟩:=hk.keep j e' hj
        obtain ⟨e2,h2⟩:=r4 j e1 (by rw [zabR,if_neg hjl];exact h1)
        exact ⟨e2,by rw [g2 j];exact h2⟩⟩
      obtain ⟨x',σ',E',q1,q2,q3,q4,q5,q6,q7⟩:=zamv h hv2 (r1.congr g2) hA hK
      exact ⟨x',σ',E',q1,q2,q3,q4,q5,Env.le_trans s1.1 q6,q7.trans s5⟩
    · exact h.elim
theorem zahN {ws olds:List Nat}{v:Value}{K:AV->Hp->Prop}{m:Nat}(h:frzW σ0 ws olds m x σ K)(hv:VR E x v)(hh:Holds E σ w)(ha:Adv E0 σ0 w0 E σ w)(hk:Kept σ0 σ ws) :
  ∃ x' σ' E',K x' σ'/\VR E' x' v/\Holds E' σ' w/\Adv E0 σ0 w0 E' σ' w/\Kept σ0 σ' ws:=by grind [zamv]
end
end Go.AS
