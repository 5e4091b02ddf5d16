/- The walk that is told things is sound: code, bodies, calls. -/
import Derived.Test.YtpofhijgccocpaaGreatDoorAWd
namespace Go.AS
noncomputable section
theorem zaoy {K:KC}{σ σ':Hp}{ws ws':List Nat}(h:Grows σ ws σ' ws'){ex:Ex}{c:Nat}{fr:Fr}{τ:Hp}(k:lift K σ' ws' ex c fr τ):lift K σ ws ex c fr τ:=by
 obtain ⟨os,us,h1,h2⟩:=k;exact ⟨os,us,h1,h.trans h2⟩
section
variable {X:WX} {C:Cx} {n:Nat} {f:FuncId} {call:zauI}
theorem zaoW {code:Code}{c:Nat}{fr:Fr}{σ:Hp}{ws:List Nat}{K:KC}(h:AX C n [] code c fr σ fun ex c' fr' σ'=>∃ os' ws' m,frzW σ ws' ws' m (.lit (.bool true)) σ' (fun _ σ2=>K os' ex c' fr' σ2 ws')/\Grows σ ws σ' ws'):AX C n [] code c fr σ (lift K σ ws) :=
 fun E w a hs=>wp_mono (h E w a hs) fun e a w' ⟨ex,c',fr',σ',E',⟨os',ws',m,hf,hg⟩,h2,st,ha,_⟩=>by
  obtain ⟨_,σ2,E2,hk,_,q3,q4,q5,q6,q7⟩:=zamv hf (.lit (.bool true)) st.holds ha ⟨fun l hl=>(hg.same l hl).2,hg.keep⟩
  exact ⟨ex,c',fr',σ2,E2,⟨os',ws',hk,fun l hl=>⟨(hg.same l hl).1,q5.same l hl⟩,q5.keep⟩,h2,⟨st.gl.mono q6,st.fr.mono q6,q3,fun k hk i hi=>by rw [q7];exact st.fresh k hk i hi⟩,q4,zaez _ _⟩
theorem zahh (hC:C.Sound)(hgl:∀ g x,C.gl g=some x->∀ M,x.cv M=some x)(hcall:∀ g,OkV C.P C.gl g (call g))(hcon:∀ g con,X.con g=some con->C.ct g=some (genC con)) :
  ∀ (code:Code) (cur:Option Nat),Code.loops (fun i x=>∀ L,X.lp f i=some L->LpOk C.P C.gl n x L) cur code ->
   ∀ (os:Orc) (c:Nat) (fr:Fr) (σ:Hp) (ws:List Nat) (K:KC),runV X C n f call cur code os c fr σ ws K->AX C n [] code c fr σ (lift K σ ws):=by
 intro code
 induction code with
 | skip=>intro cur _ os c fr σ ws K h;exact .skip ⟨os,ws,h,.refl _ _⟩
 | region i ops d =>
  intro cur _ os c fr σ ws K h
  unfold runV at h
  cases d with
  | false =>
   simp only at h
   intro E w a hs
   refine wp_region ?_
   have:=zaeV (n:=n) hC hcall (ops:=ops) (Q:=Post C n [] E σ w (lift K σ ws)) ops.toList 0 rfl _ _ _ _ _ _ h E w a hs
    fun a' w' os' c' fr' σ' ws' E' k1 k2 k3 k4=>⟨.normal,c',fr',σ',E',⟨os',ws',k1,k2⟩,rfl,k3,k4,zaez _ _⟩
   rw [List.range_eq_range']
   simpa using this
  | true =>
   simp only at h
   refine zaoW (.draw hC hC.mix (zaex ?_ (zaeX hcon h)))
   rintro log fr' σ' ⟨os',ws',h,hg⟩
   split at h
   · rename_i hp
     split at h
     · exact ⟨⟨hp⟩,os',ws',8,h,hg⟩
     · exact ⟨⟨hp⟩,os',ws',0,h,hg⟩
   · cases h
 | seq x y hx hy =>
  intro cur hl os c fr σ ws K h
  unfold runV at h
  refine .seq ((hx none hl.1 _ _ _ _ _ _ h).mono ?_)
  rintro e c1 fr1 σ1 ⟨os1,ws1,h1,hg⟩
  cases e with
  | normal=>exact (hy none hl.2 _ _ _ _ _ _ h1).mono fun e c fr σ k=>zaoy hg k
  | exit j=>exact ⟨os1,ws1,h1,hg⟩
  | ret=>exact ⟨os1,ws1,h1,hg⟩
 | cond o x y hx hy =>
  intro cur hl os c fr σ ws K h
  unfold runV at h
  split at h
  · rename_i b hb
    obtain ⟨os',h⟩:=zai7 h
    refine .cond hb ?_
    cases b with
    | true=>simp only [zah hb] at h;exact hx none hl.1 _ _ _ _ _ _ h
    | false=>simp only [zah hb] at h;exact hy none hl.2 _ _ _ _ _ _ h
  · exact h.elim
 | block i x hx =>
  intro cur hl os c fr σ ws K h
  unfold runV at h
  refine .block ((hx (some i) hl _ _ _ _ _ _ h).mono ?_)
  rintro e c1 fr1 σ1 ⟨os1,ws1,h1,hg⟩
  cases e with
  | normal=>exact ⟨os1,ws1,h1,hg⟩
  | exit j =>
   simp only at h1
   simp only [zam4]
   split at h1
   · rename_i hj;simp only [hj];exact ⟨os1,ws1,h1,hg⟩
   · rename_i hj;simp only [hj];exact ⟨os1,ws1,h1,hg⟩
  | ret=>exact ⟨os1,ws1,h1,hg⟩
 | loop x hx =>
  intro cur hl os c fr σ ws K h
  unfold runV at h
  split at h
  · rename_i L hL
    have hLp:LpOk C.P C.gl n x L:=by
      cases cur with
      | none=>cases hL
      | some i=>exact hl.1 L hL
    intro E w a hs
    exact wp_of_lwp (zajx hgl hLp h hs)
  · refine AX.loop (fun k c fr σ'=>∃ os ws',zaBz (runV X C n f call none x) k os c fr σ' ws' K/\Grows σ ws σ' ws') (k:=X.m) ⟨os,ws,h,.refl _ _⟩ ?_
    rintro k c1 fr1 σ1 ⟨os1,ws1,h1,hg⟩
    cases k with
    | zero=>exact h1.elim
    | succ k =>
      unfold zaBz at h1
      refine (hx none hl.2 _ _ _ _ _ _ h1).mono ?_
      rintro e c2 fr2 σ2 ⟨os2,ws2,h2,hg2⟩
      cases e with
      | normal=>exact ⟨k,Nat.lt_succ_self _,os2,ws2,h2,hg.trans hg2⟩
      | exit j=>exact ⟨os2,ws2,h2,hg.trans hg2⟩
      | ret=>exact ⟨os2,ws2,h2,hg.trans hg2⟩
 | exit i=>intro cur _ os c fr σ ws K h;exact .exit ⟨os,ws,h,.refl _ _⟩
 | ret=>intro cur _ os c fr σ ws K h;exact .ret ⟨os,ws,h,.refl _ _⟩
 | _=>intro cur _ os c fr σ ws K h;exact h.elim
end
structure WX.Sound (X:WX):Prop where
 px:X.px.Sound
 con:∀ g con,X.con g=some con->zagZ X.px.P X.px.gl g con
 lp:∀ (f:FuncId) (fn:Func) (code:Code),X.px.P.funcs[f]?=some fn->fn.body=some code->Code.loops (fun i x=>∀ L,X.lp f i=some L->LpOk X.px.P X.px.gl fn.ntmps x L) none code
theorem zajR {X:WX}(hX:X.Sound)(d:Nat)(f:FuncId):(cxV X d f).Sound:=by
 refine ⟨TbOk.self _,hX.px.mix,fun g ct hct => ?_⟩
 have hct:(match X.con g with|some con=>some (genC con)|none=>some (.det fun p _ xs σ=>canF (S X.px d g) p xs σ))=some ct:=hct
 split at hct
 · rename_i con hc;cases hct
   exact zaxN (C:=cxV X d f) hX.px.gl (hX.con g con hc)
 · cases hct
   exact zaqX (C:=cxV X d f) hX.px.gl (S_ok hX.px d g)
theorem zaAA {X:WX}(d:Nat)(f:FuncId):∀ g con,X.con g=some con->(cxV X d f).ct g=some (genC con):=fun g con h=>by
 show (match X.con g with|some con=>some (genC con)|none=>some (.det fun p _ xs σ=>canF (S X.px d g) p xs σ))=_
 rw [h]
theorem bodyV_ok {X:WX}(hX:X.Sound){d:Nat}{f:FuncId}{call:zauI}(hcall:∀ g,OkV X.px.P X.px.gl g (call g)){fn:Func}{code:Code}(hf:X.px.P.funcs[f]?=some fn)(hb:fn.body=some code)(hn:(fn.name == "runtime.NumGoroutine")=false) :
  OkV X.px.P X.px.gl f (bodyV X d f call fn code):=by
 have hC:=zajR hX d f
 haveI:=hC.tb
 intro os xs c σ ws K h E w vals hg hh hfr hv
 unfold bodyV at h
 split at h
 · rename_i hle
   have hle:xs.length<=fn.ntmps:=by simpa using hle
   have hax:=zahh hC hX.px.gl hcall (zaAA d f) code none (hX.lp f fn code hf hb) _ _ _ _ _ _ h
   refine .inl ⟨?_,?_⟩
   · have h0:(program).run X.px.P w = .ok X.px.P w:=rfl
     simp only [callFunc,Sem.run_bind,h0,Result.andThen_ok,hf,hn,hb,Option.isNone,Bool.false_eq_true,if_false,Sem.run_pure]
   · refine calls_of_wp hf hb ?_
     have hlen2:vals.length=xs.length:=hv.vs_length
     have hst:St (cxV X d f) fn.ntmps [] c (mkFr 0 xs) σ E w { tmps:=vals.toArray++Array.replicate (fn.ntmps-vals.toArray.size) undef,defers:=[] }:=by
       refine ⟨hg,⟨by simp;omega,rfl,fun t x ht => ?_⟩,hh,hfr⟩
       obtain ⟨j,rfl,hj⟩:=zaiv xs 0 t x ht
       obtain ⟨v,h1,h2⟩:=hv.vs_get j x hj
       refine ⟨v,?_,h2⟩
       have:j<vals.length:=by rw [List.getElem?_eq_some_iff] at h1;exact h1.1
       simp only [Nat.zero_add]
       rw [Array.getElem?_append_left (by simpa using this)]
       simpa using h1
     refine wp_mono (hax _ _ _ hst) ?_
     rintro ex a' w' ⟨e2,c2,fr2,σ2,E1,⟨os2,ws2,k1,k2⟩,h2,h3,h4,_⟩
     have main:∀ x,resE (cxV X d f) fn fr2 σ2=some x->K os2 x c2 σ2 ws2->a'.defers=[]/\∃ v,(results fn a'.tmps).run X.px.P w' = .ok v w'/\∃ u,Ending.returned v = .returned u /\
         ∃ os' x c' σ' ws' E',K os' x c' σ' ws'/\Grows σ ws σ' ws'/\VR E' x u/\Holds E' σ' w'/\Adv E σ w E' σ' w'/\∀ k,c'<=k->Fresh E' [k]:=by
       intro x hres hk
       obtain ⟨v,q1,q2⟩:=zahj h3 hres
       exact ⟨h3.fr.defers,v,q1,v,rfl,os2,x,c2,σ2,ws2,E1,hk,k2,q2,h3.holds,h4,h3.fresh⟩
     cases e2 with
     | exit i=>exact k1.elim
     | normal =>
       subst h2
       simp only at k1
       split at k1
       · rename_i x hres;exact main x hres k1
       · exact k1.elim
     | ret =>
       subst h2
       simp only at k1
       split at k1
       · rename_i x hres;exact main x hres k1
       · exact k1.elim
 · exact h.elim
theorem zagT {X:WX}(hX:X.Sound):∀ (d:Nat) (g:FuncId),OkV X.px.P X.px.gl g (callV X d g)
 | 0,g=>fun _ _ _ _ _ _ h=>h.elim
 | d+1,g=>by
  have ih:=zagT hX d
  intro os xs c σ ws K h E w vals hgl hh hfr hv
  unfold callV at h
  split at h
  · rename_i con hc
    obtain ⟨os',q,h1,h2⟩:=zahV h
    refine Does.imp (zalJ hX.px.gl (hX.con g con hc) h1 hgl hh (hfr c (Nat.le_refl _)) hv) ?_
    rintro v w' ⟨E',k1,k2,k3,k4⟩
    exact ⟨os',q.x,c+1,_,_,E',h2,.app _ _ _,k1,k2,k3,fun k hk=>(hfr k (by omega)).other k4 (by omega)⟩
  · split at h
    · rename_i e he
      split at h
      · rename_i q hq
        split at h
        · rename_i hok
          have:=hX.px.ext g e he [c] 0 xs σ (fun x upd=>x=q.x/\upd=q.upd) (by simp only [Ct.asks,hq];exact ⟨hok,by simp⟩) E w vals hgl hh (hfr c (Nat.le_refl _)) hv
          refine Does.imp this ?_
          rintro v w' ⟨E',x,upd,⟨rfl,rfl⟩,h1,h2,h3,h4⟩
          exact ⟨os,q.x,c+1,_,_,E',h,.app _ _ _,h1,h2,h3,fun k hk=>(hfr k (by omega)).other h4 (by omega)⟩
        · exact h.elim
      · cases h
    · split at h
      · rename_i fn hfn
        split at h
        · rename_i code hcode
          split at h
          · exact h.elim
          · rename_i hname
            exact bodyV_ok hX ih hfn hcode hname _ _ _ _ _ _ h E w vals hgl hh hfr hv
        · cases h
      · exact h.elim
end
end Go.AS
