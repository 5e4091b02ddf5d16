/- A nil slice in a piece that is handed in: a contract for a ghost's slice serves. -/
import Derived.Test.YtpofhijgccocpaaGreatDoorAWm
namespace Go.AS
noncomputable section
theorem suf2 {a b:Nat}(h:([a,0]:Id) <:+ [b,0]):a=b:=by
 obtain ⟨x,hx⟩:=h
 cases x with
 | nil=>exact (List.cons.inj hx).1
 | cons c x=>exact absurd (congrArg List.length hx) (by simp)
theorem suf1 {k b:Nat}(h:([k]:Id) <:+ [b,0]):k=0:=by
 obtain ⟨x,hx⟩:=h
 match x with
 | []=>exact absurd (congrArg List.length hx) (by simp)
 | [c]=>exact (List.cons.inj (List.cons.inj hx).2).1
 | c::d::x=>exact absurd (congrArg List.length hx) (by simp)
def Env.ren (E:Env)(i i':Id):Env:=⟨fun k=>if k=i' then E.ρ i else E.ρ k,E.m⟩
theorem Env.ren_self (E:Env)(i i':Id):(E.ren i i').ρ i'=E.ρ i:=if_pos rfl
variable {i' i ip:Id} {E:Env} {σ τ:Hp} {l lp n sz sz':Nat} {pre post ys:List AV} {ws:List Nat} {P:Program}
theorem Env.ren_ne (E:Env)(i:Id){k:Id}(h:k≠i'):(E.ren i i').ρ k=E.ρ k:=if_neg h
theorem Env.pure_le_ren (E:Env)(i i':Id):E.pure.le (E.ren i i'):=⟨fun _ _ h=>(nomatch h),fun _ _ h=>h⟩
theorem RR.renAt {E:Env}{i i':Id}{l:Nat}{n:Nat}:∀ {pre post:List AV} {cs:List Value},zaaD pre=true->zaaD post=true->RR E .cs (pre ++ .slc l i 0 n::post) cs->RR (E.ren i i') .cs (pre ++ .slc l i' 0 n::post) cs
 | [],post,cs,_,hp,h=>by
  cases h with
  | ccons h hs =>
   refine .ccons ?_ ((RR.pure_of hs hp).mono (Env.pure_le_ren ..))
   cases h with
   | slc _ h h1 h2=>exact .slc l ((E.ren_self i i').trans h) h1 h2
   | slcZ _ _ a h=>exact .slcZ l 0 a ((E.ren_self i i').trans h)
 | a::pre,post,cs,h1,h2,h=>by
  have h1:(zabF a&&zaaD pre)=true:=h1
  rw [Bool.and_eq_true] at h1
  cases h with
  | ccons h hs =>
   refine .ccons ((RR.pure_of h ?_).mono (Env.pure_le_ren ..)) (RR.renAt h1.2 h2 hs)
   show (zabF a&&true)=true
   rw [h1.1];rfl
theorem zalw {E':Env} {w w':World} {q:Back} 
  (hl:aget q.σ l=some ⟨i,.row true sz' ys⟩) (hp:aget q.σ lp=some ⟨ip,.row false sz [.agg (pre ++ .slc l i 0 n::post)]⟩)
  (hall:∀ k e,aget q.σ k=some e->k=l∨k=lp) (h1:zaaD pre=true) (h2:zaaD post=true) (hi:Fresh E [1]) (hi':([1]:Id) <:+ i') (hip:ip≠i') (hne:l≠lp)
  (hτ:∀ k,aget τ k=if k=l then some ⟨i',.row true sz' ys⟩ else if k=lp then some ⟨ip,.row false sz [.agg (pre ++ .slc l i' 0 n::post)]⟩ else none)
  (hws:∀ k,k∈q.ws->k∈ws) (hlw:l∈ws) (hlpw:lp∈ws) (k1:Kept σ q.σ q.ws) (k3:Holds E' q.σ w') (k4:Adv E σ w E' q.σ w') :
  Kept σ τ ws/\Holds (E'.ren i i') τ w'/\Adv E σ w (E'.ren i i') τ w':=by
 have gl1:aget τ l=some ⟨i',.row true sz' ys⟩:=(hτ l).trans (if_pos rfl)
 have gp1:aget τ lp=some ⟨ip,.row false sz [.agg (pre ++ .slc l i' 0 n::post)]⟩:=by rw [hτ,if_neg (fun e=>hne e.symm),if_pos rfl]
 have gall:∀ k e,aget τ k=some e->k=l∨k=lp:=by
  intro k e hk
  rw [hτ] at hk
  split at hk
  · exact .inl ‹_›
  · split at hk
    · exact .inr ‹_›
    · cases hk
 have hle:E.le (E'.ren i i'):=by
  refine ⟨fun j L hj => ?_,k4.le.m⟩
  have:j≠i':=by rintro rfl;rw [hi _ hi'] at hj;cases hj
  rw [E'.ren_ne i this];exact k4.le.ρ _ _ hj
 have hown:∀ b,Own (E'.ren i i') τ b->Own E' q.σ b:=by
  rintro b ⟨k,e,L,a1,a2,a3⟩
  rcases gall k e a1 with rfl|rfl
  · rw [gl1] at a1;cases a1
    rw [E'.ren_self] at a2
    exact ⟨_,_,L,hl,a2,a3⟩
  · rw [gp1] at a1;cases a1
    rw [E'.ren_ne i hip] at a2
    exact ⟨_,_,L,hp,a2,a3⟩
 refine ⟨⟨fun k hk => ?_,fun k e he => ?_⟩,⟨k3.imm,?_,fun b hb=>k3.apart b (hown b hb),?_⟩,⟨hle,k4.os,k4.tape,k4.output,k4.size,k4.kept,fun b hb=>k4.ownNew b (hown b hb),k4.mNew⟩⟩
 · have e1:k≠l:=by rintro rfl;exact hk hlw
   have e2:k≠lp:=by rintro rfl;exact hk hlpw
   show aget τ k=aget σ k
   rw [hτ,if_neg e1,if_neg e2,<-k1.same k fun h=>hk (hws k h)]
   cases he:aget q.σ k with
   | none=>rfl
   | some e =>
     rcases hall k e he with h|h
     · exact absurd h e1
     · exact absurd h e2
 · obtain ⟨e',he'⟩:=k1.keep k e he
   rcases hall k e' he' with rfl|rfl
   · exact ⟨_,gl1⟩
   · exact ⟨_,gp1⟩
 · intro k e hk
   rcases gall k e hk with rfl|rfl
   · rw [gl1] at hk;cases hk
     obtain ⟨L,b1,b2⟩:=k3.own _ _ hl
     refine ⟨L,(E'.ren_self i i').trans b1,?_⟩
     cases b2 with
     | row h hx hc hs hn hb hf ho=>exact .row h hx hc hs hn hb hf ho
     | ghost _ _=>exact .ghost _ _
   · rw [gp1] at hk;cases hk
     obtain ⟨L,b1,b2⟩:=k3.own _ _ hp
     refine ⟨L,(E'.ren_ne i hip).trans b1,?_⟩
     cases b2 with
     | row h hx hc hs hn hb hf ho =>
       refine .row h ?_ hc ?_ hn hb hf ho
       · cases hx with
         | ccons hx hr =>
           cases hr
           cases hx with
           | agg hx=>exact .ccons (.agg (RR.renAt h1 h2 hx)) .cnil
       · intro x hx
         rw [List.mem_singleton] at hx;subst hx
         rw [<-hs _ (List.mem_singleton.2 rfl)]
         have e:∀ pre:List AV,AV.fszs (pre ++ .slc l i' 0 n::post)=AV.fszs (pre ++ .slc l i 0 n::post):=by
           intro pre
           induction pre with
           | nil=>rfl
           | cons a r ih=>exact congrArg (a.fsz + ·) ih
         exact e pre
 · intro k1' k2' e1 e2 L1 L2 b a1 a2 a3 a4 a5 a6
   have src:∀ k e L,aget τ k=some e->(E'.ren i i').ρ e.id=some L->∃ e0,aget q.σ k=some e0/\E'.ρ e0.id=some L:=by
     intro k e L c1 c2
     rcases gall k e c1 with rfl|rfl
     · rw [gl1] at c1;cases c1
       rw [E'.ren_self] at c2;exact ⟨_,hl,c2⟩
     · rw [gp1] at c1;cases c1
       rw [E'.ren_ne i hip] at c2;exact ⟨_,hp,c2⟩
   obtain ⟨d1,c1,c2⟩:=src _ _ _ a1 a3
   obtain ⟨d2,c3,c4⟩:=src _ _ _ a2 a4
   exact k3.inj _ _ _ _ _ _ _ c1 c3 c2 c4 a5 a6
theorem FOk.ren {gl:Nat->Option AV} {f:FuncId} {xs:List AV} {r:Back} 
  (hx:zabF r.x=true) (hl:aget r.σ l=some ⟨i,.row true sz' ys⟩) (hp:aget r.σ lp=some ⟨ip,.row false sz [.agg (pre ++ .slc l i 0 n::post)]⟩)
  (hall:∀ k e,aget r.σ k=some e->k=l∨k=lp) (h1:zaaD pre=true) (h2:zaaD post=true) (hi:([1]:Id) <:+ i') (hip:ip≠i') (hne:l≠lp)
  (hτ:∀ k,aget τ k=if k=l then some ⟨i',.row true sz' ys⟩ else if k=lp then some ⟨ip,.row false sz [.agg (pre ++ .slc l i' 0 n::post)]⟩ else none)
  (hws:∀ k,k∈r.ws->k∈ws) (hlw:l∈ws) (hlpw:lp∈ws) (h:FOk P gl f xs σ r):FOk P gl f xs σ ⟨r.x,τ,ws⟩:=by
 intro E w vals hg hh hf hn hv
 refine (h E w vals hg hh hf hn hv).imp ?_
 rintro v w' ⟨os,q,E',rfl,k1,k2,k3,k4⟩
 obtain ⟨c1,c2,c3⟩:=zalw (q:=q) hl hp hall h1 h2 (hf 1 (Nat.le_refl _)) hi hip hne hτ hws hlw hlpw k1 k3 k4
 refine ⟨os,_,E'.ren i i',rfl,c1,(RR.pure_of k2 ?_).mono (Env.pure_le_ren ..),c2,c3⟩
 show (zabF q.x&&true)=true
 rw [hx];rfl
theorem zal9:∀ {l:List Nat} {zs:List AV} {t:Nat} {x:AV},aget (mkSl l zs) t=some x->x∈zs
 | [],zs,t,x,h=>by rw [show mkSl [] zs = .nil from rfl,zaax] at h;cases h
 | u::l,[],t,x,h=>by rw [show mkSl (u::l) [] = .nil from rfl,zaax] at h;cases h
 | u::l,z::zs,t,x,h=>by
  rw [show mkSl (u::l) (z::zs)=aset (mkSl l zs) u z from rfl,zaad] at h
  split at h
  · cases h;exact List.mem_cons_self ..
  · exact List.mem_cons_of_mem _ (zal9 h)
theorem VR.ren {k s:Nat}{z:AV}{v:Value}(hip:ip≠i')(hz:zabF z=true∨z = .ptr lp ip k s)(h:VR E z v):VR (E.ren i i') z v:=by
 rcases hz with hz|rfl
 · refine (RR.pure_of h ?_).mono (Env.pure_le_ren ..)
   show (zabF z&&true)=true
   rw [hz];rfl
 · cases h with
   | ptr _ _ _ h=>exact .ptr lp k s ((E.ren_ne i hip).trans h)
theorem zab9.ren {gl:Nat->Option AV} {m:Nat} {x:Code} {ins:List Nat} {outs:Ex->List Nat} {ys0:List AV} {ex:Ex} {zs:List AV} {σ1:Hp} {ws1:List Nat} {kk ss:Nat} 
  (h:zab9 P gl m x ins outs ys0 σ fun _ r=>r=(ex,⟨.tup zs,σ1,ws1⟩)) (hz:∀ z∈zs,zabF z=true∨z = .ptr lp ip kk ss)
  (hl:aget σ1 l=some ⟨i,.row true sz' ys⟩) (hp:aget σ1 lp=some ⟨ip,.row false sz [.agg (pre ++ .slc l i 0 n::post)]⟩)
  (hall:∀ k e,aget σ1 k=some e->k=l∨k=lp) (h1:zaaD pre=true) (h2:zaaD post=true) (hi:([1]:Id) <:+ i') (hip:ip≠i') (hne:l≠lp)
  (hτ:∀ k,aget τ k=if k=l then some ⟨i',.row true sz' ys⟩ else if k=lp then some ⟨ip,.row false sz [.agg (pre ++ .slc l i' 0 n::post)]⟩ else none)
  (hws:∀ k,k∈ws1->k∈ws) (hlw:l∈ws) (hlpw:lp∈ws):zab9 P gl m x ins outs ys0 σ fun _ r=>r=(ex,⟨.tup zs,τ,ws⟩):=by
 intro E w a hg hh hf hv
 refine lwp_mono (h E w a hg hh hf hv) ?_
 rintro e a' w' ⟨os,r,E',rfl,k0,k1,⟨us,k2,k2'⟩,k3,k4⟩
 obtain ⟨c1,c2,c3⟩:=zalw (q:=⟨.tup zs,σ1,ws1⟩) hl hp hall h1 h2 (hf 1 (Nat.le_refl _)) hi hip hne hτ hws hlw hlpw k1 k3 k4
 cases k2
 exact ⟨os,_,E'.ren i i',rfl,k0,c1,⟨zs,rfl,⟨k2'.size,k2'.defers,fun t x ht=>let ⟨v,g1,g2⟩:=k2'.at_ t x ht;⟨v,g1,g2.ren hip (hz x (zal9 ht))⟩⟩⟩,c2,c3⟩
theorem zab9.ren1 {gl:Nat->Option AV} {m:Nat} {x:Code} {ins:List Nat} {outs:Ex->List Nat} {ys0:List AV} {ex:Ex} {zs zs':List AV} {σ1:Hp} {ws1:List Nat} 
  (h:zab9 P gl m x ins outs ys0 σ fun _ r=>r=(ex,⟨.tup zs,σ1,ws1⟩)) (hz:∀ (t:Nat) (z':AV),aget (mkSl (outs ex) zs') t=some z'->∃ z,aget (mkSl (outs ex) zs) t=some z/\(zabF z=true/\z'=z∨z = .slc l i 0 n/\z' = .slc l i' 0 n))
  (hl:aget σ1 l=some ⟨i,.row true sz' ys⟩) (hall:∀ k e,aget σ1 k=some e->k=l) (hi:([1]:Id) <:+ i') (hτ:∀ k,aget τ k=if k=l then some ⟨i',.row true sz' ys⟩ else none)
  (hws:∀ k,k∈ws1->k∈ws) (hlw:l∈ws):zab9 P gl m x ins outs ys0 σ fun _ r=>r=(ex,⟨.tup zs',τ,ws⟩):=by
 intro E w a hg hh hf hv
 refine lwp_mono (h E w a hg hh hf hv) ?_
 rintro e a' w' ⟨os,r,E',rfl,k0,k1,⟨us,k2,k2'⟩,k3,k4⟩
 cases k2
 have gl1:aget τ l=some ⟨i',.row true sz' ys⟩:=(hτ l).trans (if_pos rfl)
 have gall:∀ k e,aget τ k=some e->k=l:=by
  intro k e hk
  rw [hτ] at hk
  split at hk
  · assumption
  · cases hk
 have hle:E.le (E'.ren i i'):=by
  refine ⟨fun j L hj => ?_,k4.le.m⟩
  have:j≠i':=by rintro rfl;rw [hf 1 (Nat.le_refl _) _ hi] at hj;cases hj
  rw [E'.ren_ne i this];exact k4.le.ρ _ _ hj
 have hown:∀ b,Own (E'.ren i i') τ b->Own E' σ1 b:=by
  rintro b ⟨k,e,L,a1,a2,a3⟩
  obtain rfl:=gall k e a1
  rw [gl1] at a1;cases a1
  rw [E'.ren_self] at a2
  exact ⟨_,_,L,hl,a2,a3⟩
 refine ⟨os,_,E'.ren i i',rfl,k0,⟨fun k hk => ?_,fun k e he => ?_⟩,⟨zs',rfl,k2'.size,k2'.defers,fun t z' ht => ?_⟩,⟨k3.imm,?_,fun b hb=>k3.apart b (hown b hb),?_⟩,⟨hle,k4.os,k4.tape,k4.output,k4.size,k4.kept,fun b hb=>k4.ownNew b (hown b hb),k4.mNew⟩⟩
 · have e1:k≠l:=by rintro rfl;exact hk hlw
   show aget τ k=aget σ k
   rw [hτ,if_neg e1,<-k1.same k fun h=>hk (hws k h)]
   cases he:aget σ1 k with
   | none=>rfl
   | some e=>exact absurd (hall k e he) e1
 · obtain ⟨e',he'⟩:=k1.keep k e he
   obtain rfl:=hall k e' he'
   exact ⟨_,gl1⟩
 · obtain ⟨z,hz1,hz2⟩:=hz t z' ht
   obtain ⟨v,g1,g2⟩:=k2'.at_ t z hz1
   refine ⟨v,g1,?_⟩
   rcases hz2 with ⟨hn,rfl⟩|⟨rfl,rfl⟩
   · refine (RR.pure_of g2 ?_).mono (Env.pure_le_ren ..)
     show (zabF _&&true)=true
     rw [hn];rfl
   · cases g2 with
     | slc _ h h1 h2=>exact .slc l ((E'.ren_self i i').trans h) h1 h2
     | slcZ _ _ a h=>exact .slcZ l 0 a ((E'.ren_self i i').trans h)
 · intro k e hk
   obtain rfl:=gall k e hk
   rw [gl1] at hk;cases hk
   obtain ⟨L,b1,b2⟩:=k3.own _ _ hl
   refine ⟨L,(E'.ren_self i i').trans b1,?_⟩
   cases b2 with
   | row h hx hc hs hn hb hf ho=>exact .row h hx hc hs hn hb hf ho
   | ghost _ _=>exact .ghost _ _
 · intro k1' k2' e1 e2 L1 L2 b a1 a2 a3 a4 a5 a6
   obtain rfl:=gall _ _ a1
   exact (gall _ _ a2).symm
theorem FOk.more {gl:Nat->Option AV}{f:FuncId}{xs:List AV}{r:Back}(h:FOk P gl f xs σ r)(hw:∀ k,k∈r.ws->k∈ws):FOk P gl f xs σ ⟨r.x,r.σ,ws⟩:=by
 intro E w vals hg hh hf hn hv
 refine (h E w vals hg hh hf hn hv).imp ?_
 rintro v w' ⟨os,q,E',rfl,k1,k2⟩
 exact ⟨os,_,E',rfl,⟨fun l hl=>k1.same l fun g=>hl (hw l g),k1.keep⟩,k2⟩
end
end Go.AS
