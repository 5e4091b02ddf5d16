/- The walk that is told things is sound: loops, code, bodies, calls. -/
import Derived.Test.YtpofhijgccocpaaGreatDoorAWc
namespace Go.AS
noncomputable section
theorem zahy {fr:Fr}:∀ {ts:List Nat} {xs:List AV},slots fr ts=some xs->∀ {t:Nat} {x:AV},aget (mkSl ts xs) t=some x->aget fr t=some x
 | [],xs,h,t,x,hx=>by cases h;rw [mkSl,zaax] at hx;cases hx;exact fun _ _ _ _ h=>(by cases h)
 | s::r,xs,h,t,x,hx=>by
  unfold slots at h
  split at h
  · rename_i y ys h1 h2;cases h
    rw [mkSl,zaad] at hx
    split at hx
    · rename_i e;cases hx;subst e;exact h1
    · exact zahy h2 hx
  · cases h
theorem zaju {M:List Mv}:∀ {ts:List Nat} {xs ys:List AV},AV.cvs M xs=some ys->∀ {t:Nat} {y:AV},aget (mkSl ts ys) t=some y->∃ x,aget (mkSl ts xs) t=some x/\x.cv M=some y
 | [],xs,ys,h,t,y,hy=>by
  have:mkSl [] ys = .nil:=by unfold mkSl;rfl
  rw [this,zaax] at hy;cases hy
 | s::r,[],ys,h,t,y,hy=>by
  obtain rfl:=zaej h
  have:mkSl (s::r) [] = .nil:=by unfold mkSl;rfl
  rw [this,zaax] at hy;cases hy
 | s::r,x::xs,ys,h,t,y,hy=>by
  obtain ⟨z,zs,rfl,h1,h2⟩:=zacT h
  rw [mkSl,zaad] at hy
  rw [mkSl,zaad]
  split at hy
  · rename_i e;cases hy;rw [if_pos e];exact ⟨x,rfl,h1⟩
  · rename_i e;rw [if_neg e];exact zaju h2 hy
theorem zaeK {fr:Fr}:∀ {ts:List Nat} {xs:List AV},slots fr ts=some xs->xs.length=ts.length
 | [],xs,h=>by cases h;rfl
 | t::r,xs,h=>by
  unfold slots at h
  split at h
  · rename_i y ys h1 h2;cases h;simp [zaeK h2]
  · cases h
def lwp (P:Program)(Q:Exit->Act->World->Prop)(x:Code)(a:Act)(w:World):Prop :=
 ∀ b t cs,∃ e a' w',Q e a' w'/\Arrives P (lone (b.at a (.code x :: .inLoop x::t)) cs w) b t cs e a' w'
theorem zaot {P:Program}{Q:Exit->Act->World->Prop}{x:Code}{a:Act}{w:World}(h:x.wp P (Exit.then (lwp P Q x) Q) a w):lwp P Q x a w:=by
 intro b t cs
 obtain ⟨e,a₁,w₁,hq,harr⟩:=h b (.inLoop x::t) cs
 cases e with
 | normal =>
  obtain ⟨e₁,a₂,w₂,hq₂,harr₂⟩:=hq b t cs
  exact ⟨e₁,a₂,w₂,hq₂,.of_steps (Steps.trans harr (.one step_inLoop)) harr₂⟩
 | exit id=>exact ⟨_,a₁,w₁,hq,.pass (x := .inLoop x) rfl (fun _ _ => .inl (by simp)) harr⟩
 | goto l=>exact ⟨_,a₁,w₁,hq,.pass (x := .inLoop x) rfl (fun _ _ => .inl (by simp)) harr⟩
 | ret=>exact ⟨_,a₁,w₁,hq,.pass (x := .inLoop x) rfl (fun _ _ => .inl (by simp)) harr⟩
 | panic ch=>exact ⟨_,a₁,w₁,hq,.pass (x := .inLoop x) rfl (fun _ _ => .inl (by simp)) harr⟩
 | outgrown=>exact ⟨_,a₁,w₁,hq,.pass (x := .inLoop x) rfl (fun _ _ => .inl (by simp)) harr⟩
theorem wp_of_lwp {P:Program}{Q:Exit->Act->World->Prop}{x:Code}{a:Act}{w:World}(h:lwp P Q x a w):(Code.loop x).wp P Q a w:=by
 intro b t cs
 obtain ⟨e,a',w',hq,harr⟩:=h b t cs
 exact ⟨e,a',w',hq,.of_steps (.one step_loop) harr⟩
theorem lwp_mono {P:Program}{Q Q':Exit->Act->World->Prop}{x:Code}{a:Act}{w:World}(h:lwp P Q x a w)(hq:∀ e a w,Q e a w->Q' e a w):lwp P Q' x a w:=fun b t cs=>by
 obtain ⟨e,a',w',h1,h2⟩:=h b t cs;exact ⟨e,a',w',hq _ _ _ h1,h2⟩
def zab9 (P:Program)(gl:Nat->Option AV)(n:Nat)(x:Code)(ins:List Nat)(outs:Ex->List Nat)(ys:List AV)(σ:Hp)(K:Orc->Ex × Back->Prop):Prop :=
 ∀ E w a,GLr gl E->Holds E σ w->(∀ k,1<=k->Fresh E [k])->FR E n (mkSl ins ys) a->lwp P (fun e a' w'=>∃ os r E',K os r/\r.1.to=e/\Kept σ r.2.σ r.2.ws /\
  (∃ zs,r.2.x = .tup zs/\FR E' n (mkSl (outs r.1) zs) a')/\Holds E' r.2.σ w'/\Adv E σ w E' r.2.σ w') x a w
def LpOk (P:Program)(gl:Nat->Option AV)(n:Nat)(x:Code)(L:Lp):Prop :=
 ∀ ys σ,ys.length=L.ins.length->∀ a∈L.con ys σ,∀ j,a.pre j->zab9 P gl n x L.ins L.outs ys σ fun _ r=>r=a.out j
def Code.loops (p:Nat->Code->Prop)(cur:Option Nat):Code->Prop
 | .seq x y=>Code.loops p none x/\Code.loops p none y
 | .cond _ x y=>Code.loops p none x/\Code.loops p none y
 | .block i x=>Code.loops p (some i) x
 | .loop x=>(match cur with|some i=>p i x|none=>True)/\Code.loops p none x
 | _=>True
def lift (K:KC)(σ0:Hp)(ws0:List Nat):zanm:=fun ex c fr σ=>∃ os ws,K os ex c fr σ ws/\Grows σ0 ws0 σ ws
section
variable {X:WX} {C:Cx} {n:Nat} {f:FuncId} {call:zauI}
theorem zacs {E0:Env}{σ0:Hp}{w:World}{a:Act}:∀ {l:List (Nat × Nat)} {c:Nat} {fr:Fr} {σ:Hp} {ws:List Nat} {E:Env},St C n [] c fr σ E w a->Adv E0 σ0 w E σ w ->
  ∃ E',St C n [] (ghosts l c fr σ ws).1 (ghosts l c fr σ ws).2.1 (ghosts l c fr σ ws).2.2.1 E' w a/\Adv E0 σ0 w E' (ghosts l c fr σ ws).2.2.1 w/\Grows σ ws (ghosts l c fr σ ws).2.2.1 (ghosts l c fr σ ws).2.2.2/\c<=(ghosts l c fr σ ws).1
 | [],c,fr,σ,ws,E,hs,ha=>⟨E,hs,ha,.refl _ _,Nat.le_refl _⟩
 | (t,sz)::r,c,fr,σ,ws,E,hs,ha=>by
  unfold ghosts
  split
  · rename_i x hx
    split
    · rename_i hn
      obtain ⟨v,hv1,hv2⟩:=hs.fr.at_ t x hx
      have hval:∃ b,v = .slice b 0 0:=by
        unfold zaxD at hn
        split at hn
        · rename_i b;exact ⟨b,hv2.lit_inv⟩
        · rcases zajw hv2 with ⟨_,b,c',rfl,h0⟩|⟨b,off,cp,cc,tt,fz,cs,rest,rfl,_,_,_,_,_,h0,_⟩
          · rw [h0 rfl];exact ⟨b,rfl⟩
          · rw [h0 rfl];exact ⟨_,rfl⟩
        · cases hn
      obtain ⟨b,rfl⟩:=hval
      obtain ⟨h1,h2⟩:=hs.holds.ghost (hs.fresh c (Nat.le_refl _)) (enc [c]) true sz
      have hni:zac6 E (E.name [c] .ghost) [c]:=Env.name_newIn
      obtain ⟨E',k1,k2,k3,k4⟩:=zacs (l:=r) (c:=c+1) (fr:=aset fr t (.slc (enc [c]) [c] 0 0)) (σ:=aset σ (enc [c]) ⟨[c],.row true sz []⟩) (ws:=enc [c]::ws)
        ⟨hs.gl.mono h2.le,⟨hs.fr.size,hs.fr.defers,fun s y hy=>by
          rw [zaad] at hy
          split at hy
          · rename_i e;cases hy;subst e;exact ⟨_,hv1,.slcZ _ _ _ (Env.name_self ..)⟩
          · obtain ⟨u,q1,q2⟩:=hs.fr.at_ s y hy;exact ⟨u,q1,q2.mono h2.le⟩⟩,h1,fun k hk=>(hs.fresh k (by omega)).other hni (by omega)⟩ (ha.trans h2)
      refine ⟨E',k1,k2,Grows.trans ⟨fun l hl => ?_,fun l e he => ?_⟩ k3,by omega⟩
      · simp only [List.mem_cons,not_or] at hl
        exact ⟨hl.2,by rw [zaad,if_neg hl.1]⟩
      · rw [zaad];split
        · exact ⟨_,rfl⟩
        · exact ⟨e,he⟩
    · exact zacs hs ha
  · exact zacs hs ha
theorem zajx (hgl:∀ g x,C.gl g=some x->∀ M,x.cv M=some x){x:Code}{L:Lp}(hL:LpOk C.P C.gl n x L){os:Orc}{c:Nat}{fr:Fr}{σ:Hp}{ws:List Nat}{K:KC}(h:lpV L os c fr σ ws K){E:Env}{w:World}{a:Act}(hs:St C n [] c fr σ E w a) :
  lwp C.P (Post C n [] E σ w (lift K σ ws)) x a w:=by
 unfold lpV at h
 obtain ⟨E1,s1,s2,s3,s4⟩:=zacs (l:=L.gh) (ws:=ws) hs (.refl _ _ _)
 generalize ghosts L.gh c fr σ ws=g at h s1 s2 s3 s4
 obtain ⟨c1,fr1,σ1,ws1⟩:=g
 simp only at h s1 s2 s3 s4
 split at h
 · rename_i xs hxs
   split at h
   · rename_i M σc ys hin
     obtain ⟨al,hal,j,os',hpre,h⟩:=zagX h
     have hlen:ys.length=L.ins.length:=by
       obtain ⟨ls,_,_,_,hys⟩:=zadI hin
       rw [zafc hys,zaeK hxs]
     have hb:=hL ys σc hlen al hal j hpre
     generalize al.out j=r at h hb
     split at h
     · rename_i q hq
       split at h
       · rename_i zs hz
         split at h
         · obtain ⟨ls,rfl,hsd,hσc,hys⟩:=zadI hin
           have hmv:=zadd (E:=E1) hsd
           have hfr:FR (zafh E1 (inM σ1 ls 0)) n (mkSl L.ins ys) a:=⟨s1.fr.size,s1.fr.defers,fun t y hy=>by
             obtain ⟨z,g1,g2⟩:=zaju hys hy
             obtain ⟨v,g3,g4⟩:=s1.fr.at_ t z (zahy hxs g1)
             exact ⟨v,g3,VR.cv hmv g4 g2⟩⟩
           refine lwp_mono (hb (zafh E1 (inM σ1 ls 0)) w a (fun g x hx=>GV.cv hmv (s1.gl g x hx) (hgl g x hx _)) (zagC s1.holds hsd hσc) (fun k hk=>zagD hk) hfr) ?_
           rintro e a' w' ⟨os2,r',E2,rfl,hto,hk,⟨zs',hx',hf'⟩,hh',ha'⟩
           obtain ⟨news,u1,u2,q2,q3,q4,q5,q6⟩:=zaes hq
           obtain ⟨r1,r2,r3,r4⟩:=zadJ s1.holds (s1.fresh c1 (Nat.le_refl _)) hsd hσc hh' ha' hk.same (fun l hl=>by cases hl) (zacj q2) q3 q4 fun mm hm=>by
             obtain ⟨e0,he0⟩:=zafd hσc hm
             exact hk.keep _ _ he0
           rw [hx',AV.cv] at q5
           split at q5
           · rename_i zs2 hzs2
             rw [hz] at q5;cases q5
             refine ⟨r'.1,c1+1,mkSl (L.outs r'.1) zs,σ1.app q.upd,_,⟨os',_,h,s3.trans (.app _ _ _)⟩,hto,⟨s1.gl.mono (by rw [q6] at *;exact r2.le),⟨hf'.size,hf'.defers,fun t y hy => ?_⟩,by rw [q6];exact r1,fun k hk => ?_⟩,s2.trans (by rw [q6];exact r2),zaez _ _⟩
             · obtain ⟨z,g1,g2⟩:=zaju hzs2 hy
               obtain ⟨v,g3,g4⟩:=hf'.at_ t z g1
               exact ⟨v,g3,VR.cv r4 g4 g2⟩
             · exact (s1.fresh k (by omega)).other r3 (by omega)
           · cases q5
         · exact h.elim
       · exact h.elim
     · exact h.elim
   · exact h.elim
 · exact h.elim
end
end
end Go.AS
