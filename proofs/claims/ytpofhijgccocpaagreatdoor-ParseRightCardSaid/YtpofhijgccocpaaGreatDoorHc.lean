/- Parts of the proof of ParseRight. -/
import Derived.Test.YtpofhijgccocpaaGreatDoorHb
import Derived.Test.YtpofhijgccocpaaGreatDoorHa
import Derived.Test.YtpofhijgccocpaaGreatDoorAWnil
import Derived.Test.YtpofhijgccocpaaGreatDoorAWnil2
section
namespace Go.Proofs.YtpofhijgccocpaaGreatDoor
open Go Go.AS Go.TP
theorem zaun (ts:List AV)(k d:Int)(xs:List AV)(k' d':Int)(xs':List AV)(bad' pl' v:Int):gPaR (Orc.t Orc.z) ts k d xs k' d' xs' bad' pl' v=(let z1:=[AV.agg [AV.lst false 3 ts,i0 k,i0 d,AV.slc 1048577 [0,0] 0 (List.length xs),i0 0,i0 0]]; let z2:=[AV.agg [AV.lst false 3 ts,i0 k',i0 d',AV.slc 1048577 [0,1] 0 (List.length xs'),i0 bad',i0 pl']]; let z3:=AV.ptr 1048578 [1,0] 0 0; let z4:=eR 1048577 [0,0] 5 xs; U1 [z3,i0 10] [z4,(1048578,{ id:=[1,0],obj:=AObj.row false 6 z1 })] (Yt (U1 [z3] [z4,(1048578,{ id:=[1,0],obj:=AObj.row false 6 z1 })] (Wk (i0 v) (i0 v)/\SameH (hpL [eR 1048577 [0,1] 5 xs',(1048578,{ id:=[1,0],obj:=AObj.row false 6 z2 })]) (hpL [eR 1048577 [0,1] 5 xs',(1048578,{ id:=[1,0],obj:=AObj.row false 6 z2 })]))))):=by kernel_rfl
theorem zauo (ts:List AV)(k d:Int)(xs:List AV)(bad' pl':Int):gPaN (Orc.f (Orc.t Orc.z)) ts k d xs bad' pl'=(let z1:=[AV.agg [AV.lst false 3 ts,i0 k,i0 d,AV.slc 1048577 [0,0] 0 (List.length xs),i0 0,i0 0]]; let z2:=[AV.agg [AV.lst false 3 ts,i0 k,i0 d,AV.slc 1048577 [0,0] 0 (List.length xs),i0 bad',i0 pl']]; let z3:=eR 1048577 [0,0] 5 xs; let z4:=AV.ptr 1048578 [1,0] 0 0; let z5:=(xHp 0 ts k d xs (0:Int) (0:Int)); U1 [z4,i0 10] [z3,(1048578,{ id:=[1,0],obj:=AObj.row false 6 z1 })] (Nf ((decide ((0:Int)<=k/\k<(↑(List.length ts):Int))&&(Nat.beq 3 3&&(zaak (Cx.B (cxV (XQn (WX.add (WX.add XB fXIs (Sp.con [spI (10:Int) true z5])) zaaq (Sp.con [spD false z5 (xHp 0 ts k d xs bad' pl')])) zaaR [17,19]) 14 zaaR)) shN 124 (List.getD ts (Int.toNat k) uu)&&(true||false))))=true/\U1 [z4] [z3,(1048578,{ id:=[1,0],obj:=AObj.row false 6 z1 })] (Yt (Wk (i0 0) (i0 0)/\SameH (hpL [z3,(1048578,{ id:=[1,0],obj:=AObj.row false 6 z2 })]) (hpL [z3,(1048578,{ id:=[1,0],obj:=AObj.row false 6 z2 })])))))):=by kernel_rfl
theorem zaum (ts:List AV)(k d:Int)(xs:List AV)(k1 k2 d2:Int)(xs2:List AV)(bad2 pl2:Int)(v a:Int):gPaY (Orc.f (Orc.f Orc.z)) ts k d xs k1 k2 d2 xs2 bad2 pl2 v a=(let z1:=[AV.agg [AV.lst false 3 ts,i0 k,i0 d,AV.slc 1048577 [0,0] 0 (List.length xs),i0 0,i0 0]]; let z2:=AV.agg [i0 5,i0 a,i0 0,s0 ByteArray.empty,AV.lst false 1 [i0 v]]; let z3:=AV.ptr 1048578 [1,0] 0 0; let z4:=[AV.agg [AV.lst false 3 ts,i0 k2,i0 (d2-1),AV.slc 1048577 [0,1] 0 (List.length (xs2++[z2])),i0 bad2,i0 pl2]]; let z5:=[AV.agg [AV.lst false 3 ts,i0 k2,i0 (d2-1),AV.slc 1048577 [0,0] 0 (List.length xs2),i0 bad2,i0 pl2]]; let z6:=[AV.agg [AV.lst false 3 ts,i0 k1,i0 (d+1),AV.slc 1048577 [0,0] 0 (List.length xs),i0 0,i0 0]]; let z7:=eR 1048577 [0,0] 5 xs; let z8:=(↑(List.length xs2):Int); let z9:=(xHp 0 ts k1 (d+1) xs (0:Int) (0:Int)); let z10:=(xHp 0 ts k d xs (0:Int) (0:Int)); U1 [z3,i0 10] [z7,(1048578,{ id:=[1,0],obj:=AObj.row false 6 z1 })] (Nf ((decide ((0:Int)<=k/\k<(↑(List.length ts):Int))&&(Nat.beq 3 3&&(zaak (Cx.B (cxV (XQn (WX.add (WX.add (WX.add (WX.add XB fXIs (Sp.con [spI (10:Int) true z10])) zaaq (Sp.con [spD true z10 z9])) zaaR (Sp.con [spV v z9 (xHp 1 ts k2 d2 xs2 bad2 pl2)])) zabG (Sp.con [spA (rgV (5:Int) a (0:Int) ByteArray.empty [i0 v]) z8 (xHp 0 ts k2 (d2-1) xs2 bad2 pl2) (xHp 1 ts k2 (d2-1) (xs2++[rgV (5:Int) a (0:Int) ByteArray.empty [i0 v]]) bad2 pl2)])) zaaR [17,19]) 14 zaaR)) shN 124 (List.getD ts (Int.toNat k) uu)&&(true||false))))=true/\U1 [z3] [z7,(1048578,{ id:=[1,0],obj:=AObj.row false 6 z1 })] (Nf (U1 [z3] [z7,(1048578,{ id:=[1,0],obj:=AObj.row false 6 z6 })] (inR IntKind.i64 (d2-1)=true/\∃ (_:Unit),(True/\Wks [z3,AV.agg [i0 5,i0 (intA (nthA 1 (List.getD ts (Int.toNat k) uu))),i0 0,s0 ⟨⟨[]⟩⟩,AV.lst true 1 [i0 v]]] [z3,z2]/\hpL [eR 1048577 [0,0] 5 xs2,(1048578,{ id:=[1,0],obj:=AObj.row false 6 z5 })]=hpL [eR 1048577 [0,0] 5 xs2,(1048578,{ id:=[1,0],obj:=AObj.row false 6 z5 })])/\Wk (i0 z8) (i0 z8)/\SameH (hpL [eR 1048577 [0,1] 5 (xs2++[z2]),(1048578,{ id:=[1,0],obj:=AObj.row false 6 z4 })]) (hpL [eR 1048577 [0,1] 5 (xs2++[z2]),(1048578,{ id:=[1,0],obj:=AObj.row false 6 z4 })]))))))):=by kernel_rfl
end Go.Proofs.YtpofhijgccocpaaGreatDoor
end
section
namespace Go.Proofs.YtpofhijgccocpaaGreatDoor
open Go.AS Go.TP
noncomputable section
theorem XInv.of_RI {n:Nat}{all:List Tk}{s t:RS}(h:XInv all s)(hd:s.deep<=24)(g:RI n 0 s t):XInv all t:=by
 have l:=g.len
 have l2:=h.lo
 have d0:=g.d0
 have d1:=g.d1
 have h0:=h.d0
 exact ⟨g.suf.trans h.suf,g.ok,g.bad,by omega,by omega,h.la,by omega⟩
theorem zaby {all:List Tk}{s:RS}(hb:s.bad=none)(c:Nat):xS c all s=xHp c (all.map encT) ((all.length:Int)-s.ts.length) s.deep (s.out.map xE) 0 0:=by
 unfold xS badE badP; rw [hb]
theorem xRen {f:Nat}{all:List Tk}{t:RS}{ys:List AV}{σ:Hp}{v:Int}{ws:List Nat}(h:FOk Tryz.prog gl0 f (xArg::ys) σ ⟨i0 v,xS 0 all t,ws⟩)(hw:∀ k,k∈ws->k=1048577∨k=1048578) :
  FOk Tryz.prog gl0 f (xArg::ys) σ ⟨i0 v,xS 1 all t,[1048577,1048578]⟩:=by
 have hg:∀ (c k:Nat),aget (xS c all t) k=if k=1048577 then some ⟨[0,c], .row true 5 (t.out.map xE)⟩ else if k=1048578 then some ⟨[1,0], .row false 6 [.agg ([.lst false 3 (all.map encT),i0 ((all.length:Int)-t.ts.length),i0 t.deep] ++ .slc 1048577 [0,c] 0 (t.out.map xE).length::[i0 (badE t),i0 (badP t)])]⟩ else none:=by
  intro c k
  unfold xS xHp
  simp only [hpL]
  rw [zaad,zaad,zaaz]; rfl
 refine FOk.ren (l:=1048577) (lp:=1048578) (r:=⟨i0 v,xS 0 all t,ws⟩) (i:=[0,0]) (i':=[0,1]) (ip:=[1,0]) rfl ((hg 0 _).trans (if_pos rfl)) ((hg 0 _).trans ((if_neg (by decide)).trans (if_pos rfl))) ?_ rfl rfl ⟨[0],rfl⟩ (by decide) (by decide) (hg 1) ?_ ?_ ?_ h
 · intro k e hk
   have hk:=(hg 0 k).symm.trans hk
   split at hk
   · exact .inl ‹_›
   · split at hk
     · exact .inr ‹_›
     · cases hk
 · intro k hk
   rcases hw k hk with rfl | rfl <;> decide
 · decide
 · decide
abbrev fLv:Lv->Nat
 | .expr=>zaan
 | .term=>zaaU
 | .part=>zaaR
 | .ranged=>zaat
 | .atom=>zaab
def LvOk (all:List Tk)(f:Nat)(lv:Lv)(s:RS):Prop:=FOk Tryz.prog gl0 (fLv lv) [xArg] (xS 0 all s) ⟨i0 (RP f lv s).1,xS 1 all (RP f lv s).2,[1048577,1048578]⟩
abbrev IH (all:List Tk)(f:Nat):Prop:=∀ (lv:Lv) (s:RS),XInv all s->s.bad=none->s.deep<=24->5*s.ts.length+offL lv<=f->LvOk all f lv s
theorem zaxR (k a:Int)(x:ByteArray):zaak (Cx.B (cxV XB 14 zaaR)) shN 124 (.agg [i0 k,i0 a,s0 x])=true:=by kernel_rfl
attribute [local irreducible] runF in
set_option maxRecDepth 100000 in
theorem zaom {f:Nat}{all:List Tk}(ih:IH all f){s:RS}(h:XInv all s)(hb:s.bad=none)(hd:s.deep<=24)(hf:5*s.ts.length+3<=f+1):LvOk all (f+1) .part s:=by
 unfold LvOk
 obtain ⟨t1,t2,t3⟩:=zal4 h (AV.lit (Value.tuple ⟨[]⟩))
 have hI:=zaon h 10
 rw [zaby hb] at hI ⊢
 rw [RP]
 cases hi:isR 10 s with
 | false =>
  rw [hi] at hI
  have hr:LvOk all f .ranged s:=ih .ranged s h hb hd (by show _+2<=_; omega)
  unfold LvOk at hr
  rw [zaby hb] at hr
  simp only [Bool.false_eq_true,if_false]
  have q:gPaR _ _ _ _ _ _ _ _ _ _ _:=(zaun (all.map encT) ((all.length:Int)-s.ts.length) s.deep (s.out.map xE) ((all.length:Int)-(RP f .ranged s).2.ts.length) (RP f .ranged s).2.deep ((RP f .ranged s).2.out.map xE) (badE (RP f .ranged s).2) (badP (RP f .ranged s).2) (RP f .ranged s).1).mpr
   ⟨(),⟨trivial, .refl _,rfl⟩,rfl,(),⟨trivial, .refl _,rfl⟩, .refl _, .rfl⟩
  have hX:=((zabg.add (con1 hI)).add (con1 (f:=zaat) hr))
  exact zadS (d:=14) ((hX.ask askX).askAt zaaR [17,19]) (f:=zaaR) (fn:=fn zaaR) (code:=code zaaR) (fnOk zaaR (by kernel_rfl)) (by kernel_rfl) (by kernel_rfl) q
 | true =>
  rw [hi] at hI
  have hk:(zaac s.ts).kind≠11:=by rw [(zaaw hi).2]; decide
  have hD:=zahj h hk
  simp only [if_true]
  have tok:∀ B:Tb,B=Cx.B (cxV XB 14 zaaR)->(decide ((0:Int)<=(all.length:Int)-s.ts.length/\(all.length:Int)-s.ts.length<((all.map encT).length:Int))&&(Nat.beq 3 3&&(zaak B shN 124 ((all.map encT).getD ((all.length:Int)-s.ts.length).toNat (AV.lit (Value.tuple ⟨[]⟩)))&&(true||false))))=true:=by
   intro B hB
   subst hB
   rw [t1,decide_eq_true ⟨t2,t3⟩]
   show (true&&(true&&(zaak _ shN 124 (.agg [i0 _,i0 _,s0 _])&&(true||false))))=true
   rw [zaxR]; rfl
  by_cases h24:24<=s.deep
  · have e:downR s=(false,zaaW 16 s):=if_pos h24
    rw [e] at hD ⊢
    simp only [Bool.false_eq_true,if_false]
    rw [zaby hb] at hD
    have hD':=hD
    rw [zaci] at hD'
    have q:gPaN _ _ _ _ _ _ _:=(zauo (all.map encT) ((all.length:Int)-s.ts.length) s.deep (s.out.map xE) (badE (zaaW 16 s)) (badP (zaaW 16 s))).mpr
      ⟨(),⟨trivial, .refl _,rfl⟩,rfl,tok _ rfl,(),⟨trivial, .refl _,rfl⟩,rfl, .refl _, .rfl⟩
    have hX:=((zabg.add (con1 hI)).add (con1 (f:=zaaq) hD'))
    have g:=zadS (d:=14) ((hX.ask askX).askAt zaaR [17,19]) (f:=zaaR) (fn:=fn zaaR) (code:=code zaaR) (fnOk zaaR (by kernel_rfl)) (by kernel_rfl) (by kernel_rfl) q
    refine xRen (t:=zaaW 16 s) (v:=0) (ws:=[1048577,1048578]) ?_ (by intro k hk; simpa using hk)
    rw [zaci]
    exact g
  · have e:downR s=(true,{ s with deep:=s.deep+1,ts:=zaas s.ts }):=if_neg h24
    rw [e] at hD ⊢
    simp only [if_true]
    have g0:RI 0 0 s s := .refl h.ok h.bad
    have gu:=g0.down hk
    generalize hu:({ s with deep:=s.deep+1,ts:=zaas s.ts }:RS)=u at hD gu ⊢
    have ub:u.bad=none:=by rw [<-hu]; exact hb
    have ul:u.ts.length+1=s.ts.length:=by rw [<-hu]; exact zabk h.ok hk
    have ud:u.deep=s.deep+1:=by rw [<-hu]
    have uo:u.out=s.out:=by rw [<-hu]
    have uI:XInv all u:=by
      have:=h.lo
      have:=h.d0
      exact ⟨gu.suf.trans h.suf,gu.ok,gu.bad,by omega,by omega,h.la,by rw [uo]; omega⟩
    have hp:LvOk all f .part u:=ih .part u uI ub (by omega) (by show _+3<=_; omega)
    have gp:=zadq f .part u uI.ok uI.bad
    have gz:RI 1 0 s (upR (RP f .part u).2):=RI.up (k:=0) (gu.trans ub gp)
    unfold LvOk at hp
    rw [zaby ub] at hp hD
    rw [zaby hb] at hD
    generalize RP f .part u=q at hp gp gz ⊢
    have zI:XInv all (upR q.2):=h.of_RI hd gz
    have hA:=zajZ zI ⟨5,(zaac s.ts).at_,0,ByteArray.empty,[q.1]⟩
    have dq:inR .i64 (q.2.deep-1)=true:=by
      have:=zI.d0; have:=zI.d1
      exact zaao (by show _<=(upR q.2).deep; omega) (by show (upR q.2).deep<_; omega)
    have lm:(q.2.out.map xE).length=q.2.out.length:=List.length_map ..
    have hA':FOk Tryz.prog gl0 zabG (xArg::[rgV 5 (zaac s.ts).at_ 0 ByteArray.empty [i0 (q.1:Int)]]) (xHp 0 (all.map encT) ((all.length:Int)-q.2.ts.length) (q.2.deep-1) (q.2.out.map xE) (badE q.2) (badP q.2))
        ⟨i0 ((q.2.out.map xE).length:Int),xHp 1 (all.map encT) ((all.length:Int)-q.2.ts.length) (q.2.deep-1) (q.2.out.map xE++[rgV 5 (zaac s.ts).at_ 0 ByteArray.empty [i0 (q.1:Int)]]) (badE q.2) (badP q.2),[1048577,1048578]⟩:=by
      rw [lm]
      have hA2:FOk Tryz.prog gl0 zabG (xArg::[rgV 5 (zaac s.ts).at_ 0 ByteArray.empty [i0 (q.1:Int)]]) (xHp 0 (all.map encT) ((all.length:Int)-q.2.ts.length) (q.2.deep-1) (q.2.out.map xE) (badE q.2) (badP q.2))
        ⟨i0 (q.2.out.length:Int),xHp 1 (all.map encT) ((all.length:Int)-q.2.ts.length) (q.2.deep-1) ((q.2.out++[(⟨5,(zaac s.ts).at_,0,ByteArray.empty,[q.1]⟩:RN)]).map xE) (badE q.2) (badP q.2),[1048577,1048578]⟩:=hA
      rw [List.map_append] at hA2
      exact hA2
    have hD2:FOk Tryz.prog gl0 zaaq [xArg] (xHp 0 (all.map encT) ((all.length:Int)-s.ts.length) s.deep (s.out.map xE) 0 0) ⟨b0 true,xHp 0 (all.map encT) ((all.length:Int)-u.ts.length) (s.deep+1) (s.out.map xE) 0 0,[1048578]⟩:=by
      rw [ud,uo] at hD; exact hD
    have hP2:FOk Tryz.prog gl0 zaaR [xArg] (xHp 0 (all.map encT) ((all.length:Int)-u.ts.length) (s.deep+1) (s.out.map xE) 0 0) ⟨i0 (q.1:Int),xHp 1 (all.map encT) ((all.length:Int)-q.2.ts.length) q.2.deep (q.2.out.map xE) (badE q.2) (badP q.2),[1048577,1048578]⟩:=by
      rw [ud,uo] at hp; exact hp
    have hX:=(((zabg.add (con1 hI)).add (con1 (f:=zaaq) hD2)).add (con1 (f:=zaaR) hP2)).add (con1 (f:=zabG) hA')
    have z:gPaY _ _ _ _ _ _ _ _ _ _ _ _ _:=(zaum (all.map encT) ((all.length:Int)-s.ts.length) s.deep (s.out.map xE) ((all.length:Int)-u.ts.length) ((all.length:Int)-q.2.ts.length) q.2.deep (q.2.out.map xE) (badE q.2) (badP q.2) q.1 (zaac s.ts).at_).mpr (by
      refine ⟨(),⟨trivial, .refl _,rfl⟩,rfl,tok _ rfl,(),⟨trivial, .refl _,rfl⟩,rfl,(),⟨trivial, .refl _,rfl⟩,dq,(),⟨trivial,?_,rfl⟩, .refl _, .rfl⟩
      rw [t1]
      exact .cons (.refl _) (.cons (.agg (.cons (.refl _) (.cons (.refl _) (.cons (.refl _) (.cons (.refl _) (.cons .lst .nil)))))) .nil))
    have g:=zadS (d:=14) ((hX.ask askX).askAt zaaR [17,19]) (f:=zaaR) (fn:=fn zaaR) (code:=code zaaR) (fnOk zaaR (by kernel_rfl)) (by kernel_rfl) (by kernel_rfl) z
    show FOk _ _ _ _ _ ⟨i0 (q.2.out.length:Int),xHp 1 _ ((all.length:Int)-q.2.ts.length) (q.2.deep-1) ((q.2.out++[(⟨5,(zaac s.ts).at_,0,ByteArray.empty,[q.1]⟩:RN)]).map xE) (badE q.2) (badP q.2),_⟩
    rw [List.map_append,<-lm]
    exact g
end
end Go.Proofs.YtpofhijgccocpaaGreatDoor
end
section
namespace Go.Proofs.YtpofhijgccocpaaGreatDoor
open Go.AS Go.TP
noncomputable section
theorem conC {f:Nat}{ys:List AV}{σ:Hp}{r:Back}{l:List Sp}(h:FOk Tryz.prog gl0 f (xArg::ys) σ r)(k:zagn Tryz.prog gl0 f (Sp.con l)):zagn Tryz.prog gl0 f (Sp.con (spX ys σ r::l)):=by
 intro xs' σ' a ha i hp
 rcases List.mem_cons.1 ha with rfl | ha
 · exact con1 h xs' σ' _ (List.mem_singleton.2 rfl) i hp
 · exact k xs' σ' a ha i hp
abbrev xQ (c:Nat)(all:List Tk)(t:RS)(k d:Int):Hp:=xHp c (all.map encT) k d (t.out.map xE) (badE t) (badP t)
abbrev plc (all:List Tk)(t:RS):Int:=(all.length:Int)-t.ts.length
theorem zabJ {all:List Tk}{s:RS}(h:XInv all s):∀ B:Tb,B=Cx.B (cxV XB 14 zaaR)->(decide ((0:Int)<=plc all s/\plc all s<((all.map encT).length:Int))&&(Nat.beq 3 3&&(zaak B shN 124 ((all.map encT).getD (plc all s).toNat (AV.lit (Value.tuple ⟨[]⟩)))&&(true||false))))=true:=by
 obtain ⟨t1,t2,t3⟩:=zal4 h (AV.lit (Value.tuple ⟨[]⟩))
 intro B hB
 subst hB
 rw [t1,decide_eq_true ⟨t2,t3⟩]
 show (true&&(true&&(zaak _ shN 124 (.agg [i0 _,i0 _,s0 _])&&(true||false))))=true
 rw [zaxR]; rfl
theorem zahh {all:List Tk}{z:RS}(h:XInv all z)(k a:Int)(ps:List Nat) :
  FOk Tryz.prog gl0 zabG (xArg::[rgV k a 0 ByteArray.empty (ps.map fun j:Nat=>i0 (j:Int))]) (xQ 0 all z (plc all z) z.deep)
   ⟨i0 ((z.out.map xE).length:Int),xHp 1 (all.map encT) (plc all z) z.deep (z.out.map xE++[rgV k a 0 ByteArray.empty (ps.map fun j:Nat=>i0 (j:Int))]) (badE z) (badP z),[1048577,1048578]⟩:=by
 have lm:(z.out.map xE).length=z.out.length:=List.length_map ..
 rw [lm]
 have hA2:FOk Tryz.prog gl0 zabG (xArg::[rgV k a 0 ByteArray.empty (ps.map fun j:Nat=>i0 (j:Int))]) (xQ 0 all z (plc all z) z.deep)
   ⟨i0 (z.out.length:Int),xHp 1 (all.map encT) (plc all z) z.deep ((z.out++[(⟨k,a,0,ByteArray.empty,ps⟩:RN)]).map xE) (badE z) (badP z),[1048577,1048578]⟩:=zajZ h ⟨k,a,0,ByteArray.empty,ps⟩
 rw [List.map_append] at hA2
 exact hA2
theorem zajU {f:Nat} {all:List Tk} {σ:Hp} (z:RS) (k a:Int) (ps:List Nat)
  (h:FOk Tryz.prog gl0 f [xArg] σ ⟨i0 ((z.out.map xE).length:Int),xHp 1 (all.map encT) (plc all z) z.deep (z.out.map xE++[rgV k a 0 ByteArray.empty (ps.map fun j:Nat=>i0 (j:Int))]) (badE z) (badP z),[1048577,1048578]⟩) :
  FOk Tryz.prog gl0 f [xArg] σ ⟨i0 ((addR ⟨k,a,0,ByteArray.empty,ps⟩ z).1:Int),xS 1 all (addR ⟨k,a,0,ByteArray.empty,ps⟩ z).2,[1048577,1048578]⟩:=by
 show FOk _ _ _ _ _ ⟨i0 (z.out.length:Int),xHp 1 _ (plc all z) z.deep ((z.out++[(⟨k,a,0,ByteArray.empty,ps⟩:RN)]).map xE) (badE z) (badP z),_⟩
 have lm:(z.out.map xE).length=z.out.length:=List.length_map ..
 rw [List.map_append,<-lm]
 exact h
theorem zal5 {all:List Tk}{s:RS}(h:XInv all s)(hb:s.bad=none)(hk:(zaac s.ts).kind≠11)(h24:¬24<=s.deep) :
  ∃ u,downR s=(true,u)/\RI 1 1 s u/\XInv all u/\u.bad=none/\u.deep=s.deep+1/\u.deep<=24/\u.ts.length+1=s.ts.length/\u.out=s.out /\
   FOk Tryz.prog gl0 zaaq [xArg] (xHp 0 (all.map encT) (plc all s) s.deep (s.out.map xE) 0 0) ⟨b0 true,xHp 0 (all.map encT) (plc all u) (s.deep+1) (s.out.map xE) 0 0,[1048578]⟩:=by
 have hD:=zahj h hk
 have e:downR s=(true,{ s with deep:=s.deep+1,ts:=zaas s.ts }):=if_neg h24
 rw [e,zaby hb] at hD
 have g0:RI 0 0 s s := .refl h.ok h.bad
 have gu:=g0.down hk
 have:=h.lo
 have:=h.d0
 have ul:=zabk h.ok hk
 have hD2:=hD
 rw [show xS 0 all (true,({ s with deep:=s.deep+1,ts:=zaas s.ts }:RS)).2=_ from zaby (s:={ s with deep:=s.deep+1,ts:=zaas s.ts }) hb 0] at hD2
 exact ⟨_,e,gu,⟨gu.suf.trans h.suf,gu.ok,gu.bad,by show 0<=s.deep+1; omega,by show s.deep+1<=26; omega,h.la,by show s.out.length+(zaas s.ts).length<=_; omega⟩,hb,rfl,by show s.deep+1<=24; omega,ul,rfl,hD2⟩
theorem zaie {all:List Tk}{s:RS}(h:XInv all s)(hb:s.bad=none)(hk:(zaac s.ts).kind≠11)(h24:24<=s.deep) :
  downR s=(false,zaaW 16 s)/\FOk Tryz.prog gl0 zaaq [xArg] (xHp 0 (all.map encT) (plc all s) s.deep (s.out.map xE) 0 0) ⟨b0 false,xHp 0 (all.map encT) (plc all s) s.deep (s.out.map xE) (badE (zaaW 16 s)) (badP (zaaW 16 s)),[1048578]⟩:=by
 have e:downR s=(false,zaaW 16 s):=if_pos h24
 have hD:=zahj h hk
 rw [e,zaby hb] at hD
 rw [show xS 0 all (false,zaaW 16 s).2=_ from zaci 0 all 16 s] at hD
 exact ⟨e,hD⟩
theorem zaqJ {all:List Tk}{s:RS}(h:XInv all s){c:Int}{b:Bool}(hi:isR c s=b):FOk Tryz.prog gl0 fXIs [xArg,i0 c] (xQ 0 all s (plc all s) s.deep) ⟨b0 b,xQ 0 all s (plc all s) s.deep,[]⟩:=by
 have:=zaon h c
 rw [hi] at this; exact this
theorem bad0 {s:RS}(hb:s.bad=none):badE s=0/\badP s=0:=by unfold badE badP; rw [hb]; exact ⟨rfl,rfl⟩
theorem zafd {all:List Tk}{s:RS}(h:XInv all s)(hb:s.bad=none){c:Int}{b:Bool}(hi:isR c s=b):FOk Tryz.prog gl0 fXIs [xArg,i0 c] (xHp 0 (all.map encT) (plc all s) s.deep (s.out.map xE) 0 0) ⟨b0 b,xHp 0 (all.map encT) (plc all s) s.deep (s.out.map xE) 0 0,[]⟩:=by
 have:=zaqJ h hi
 unfold xQ at this
 rw [(bad0 hb).1,(bad0 hb).2] at this; exact this
theorem x_lv {f:Nat}{all:List Tk}{lv:Lv}{s:RS}(hb:s.bad=none)(h:LvOk all f lv s):FOk Tryz.prog gl0 (fLv lv) [xArg] (xHp 0 (all.map encT) (plc all s) s.deep (s.out.map xE) 0 0) ⟨i0 (RP f lv s).1,xQ 1 all (RP f lv s).2 (plc all (RP f lv s).2) (RP f lv s).2.deep,[1048577,1048578]⟩:=by
 unfold LvOk at h
 rw [zaby hb] at h; exact h
theorem deepI {all:List Tk}{t:RS}(h:XInv all (upR t)):inR .i64 (t.deep-1)=true:=by
 have d0:0<=t.deep-1:=h.d0
 have d1:t.deep-1<=26:=h.d1
 exact zaao (by omega) (by omega)
theorem zadM (all:List Tk){s:RS}(h:XInv all s)(k:Int)(ps:List AV):Wks [xArg, .agg [i0 k,i0 (intA (nthA 1 ((all.map encT).getD (plc all s).toNat (AV.lit (Value.tuple ⟨[]⟩))))),i0 0,s0 ⟨⟨[]⟩⟩, .lst true 1 ps]] [xArg,rgV k (zaac s.ts).at_ 0 ByteArray.empty ps]:=by
 obtain ⟨t1,_,_⟩:=zal4 h (AV.lit (Value.tuple ⟨[]⟩))
 rw [show (all.map encT).getD (plc all s).toNat (AV.lit (Value.tuple ⟨[]⟩))=_ from t1]
 exact .cons (.refl _) (.cons (.agg (.cons (.refl _) (.cons (.refl _) (.cons (.refl _) (.cons (.refl _) (.cons .lst .nil)))))) .nil)
end
end Go.Proofs.YtpofhijgccocpaaGreatDoor
end
section
namespace Go.Proofs.YtpofhijgccocpaaGreatDoor
open Go.AS Go.TP
noncomputable section
attribute [local irreducible] runF in
set_option maxRecDepth 100000 in
theorem zaok {f:Nat}{all:List Tk}(ih:IH all f){s:RS}(h:XInv all s)(hb:s.bad=none)(hd:s.deep<=24)(hf:5*s.ts.length+2<=f+1):LvOk all (f+1) .ranged s:=by
 unfold LvOk
 rw [zaby hb,RP]
 have fin:∀ {X:WX} (hX:X.Sound) (hp:X.px=X0) {os:Orc} {fc:List Nat} {r:Back},runF (XQn X zaat [17,19,50,52,91,93]) 14 zaat (fn zaat) (code zaat) os 0 fc [xArg] (xHp 0 (all.map encT) (plc all s) s.deep (s.out.map xE) 0 0) r ->
   FOk Tryz.prog gl0 zaat [xArg] (xHp 0 (all.map encT) (plc all s) s.deep (s.out.map xE) 0 0) r:=by
  intro X hX hp os fc r g
  have hP:X.px.P=Tryz.prog:=by rw [hp]; rfl
  have hg:X.px.gl=gl0:=by rw [hp]; rfl
  have:=zadS (X:=XQn X zaat [17,19,50,52,91,93]) (d:=14) ((hX.ask askX).askAt zaat _) (f:=zaat) (fn:=fn zaat) (code:=code zaat) (by show X.px.P.funcs[zaat]?=_; rw [hP]; exact fnOk zaat (by kernel_rfl)) (by kernel_rfl) (by kernel_rfl) g
  rw [<-hg,<-hP]; exact this
 cases hi:isR 5 s with
 | true =>
  have hk:(zaac s.ts).kind≠11:=by rw [(zaaw hi).2]; decide
  simp only [if_true]
  by_cases h24:24<=s.deep
  · obtain ⟨e,hD⟩:=zaie h hb hk h24
    rw [e]
    simp only [Bool.false_eq_true,if_false]
    have q:zazH _ _ _ _ _ _ _:=(zapU (all.map encT) (plc all s) s.deep (s.out.map xE) (badE (zaaW 16 s)) (badP (zaaW 16 s))).mpr
      ⟨(),⟨trivial, .refl _,rfl⟩,rfl,zabJ h _ rfl,(),⟨trivial, .refl _,rfl⟩,rfl, .refl _, .rfl⟩
    have g:=fin ((zabg.add (con1 (zafd h hb hi))).add (con1 (f:=zaaq) hD)) rfl q
    refine xRen (t:=zaaW 16 s) (v:=0) (ws:=[1048577,1048578]) ?_ (by intro k hk; simpa using hk)
    rw [zaci]
    exact g
  · obtain ⟨u,e,gu,uI,ub,ud,ud24,ul,uo,hD⟩:=zal5 h hb hk h24
    rw [e]
    simp only [if_true]
    have ha:=x_lv ub (ih .atom u uI ub ud24 (by show _+1<=_; omega))
    have gz:RI 1 0 s (upR (RP f .atom u).2):=RI.up (k:=0) (gu.trans ub (zadq f .atom u uI.ok uI.bad))
    rw [ud,uo] at ha
    generalize RP f .atom u=q at ha gz ⊢
    have zI:XInv all (upR q.2):=h.of_RI hd gz
    have z:zazG _ _ _ _ _ _ _ _ _ _ _ _ _:=(zapT (all.map encT) (plc all s) s.deep (s.out.map xE) (plc all u) (plc all q.2) q.2.deep (q.2.out.map xE) (badE q.2) (badP q.2) q.1 (zaac s.ts).at_).mpr
      ⟨(),⟨trivial, .refl _,rfl⟩,rfl,zabJ h _ rfl,(),⟨trivial, .refl _,rfl⟩,rfl,(),⟨trivial, .refl _,rfl⟩,deepI zI,(),⟨trivial,zadM all h 6 _,rfl⟩, .refl _, .rfl⟩
    exact zajU (upR q.2) 6 _ [q.1] (fin ((((zabg.add (con1 (zafd h hb hi))).add (con1 (f:=zaaq) hD)).add (con1 (f:=zaab) ha)).add (con1 (zahh zI 6 (zaac s.ts).at_ [q.1]))) rfl z)
 | false =>
  simp only [Bool.false_eq_true,if_false]
  have ha:=x_lv hb (ih .atom s h hb hd (by show _+1<=_; omega))
  have ga:=zadq f .atom s h.ok h.bad
  generalize hA:RP f .atom s=A at ha ga ⊢
  have AI:XInv all A.2:=h.of_RI hd ga
  have al:A.2.ts.length<=s.ts.length:=ga.suf.length_le
  have hS:=zafd h hb hi
  cases h5:isR 5 A.2 with
  | false =>
   simp only [Bool.false_eq_true,if_false]
   cases h6:isR 6 A.2 with
   | false =>
    simp only [Bool.false_eq_true,if_false]
    have q:gRaA _ _ _ _ _ _ _ _ _ _ _:=(zauk (all.map encT) (plc all s) s.deep (s.out.map xE) (plc all A.2) A.2.deep (A.2.out.map xE) (badE A.2) (badP A.2) A.1).mpr
     ⟨(),⟨trivial, .refl _,rfl⟩,rfl,(),⟨trivial, .refl _,rfl⟩,(),⟨trivial, .refl _,rfl⟩,rfl,(),⟨trivial, .refl _,rfl⟩,rfl, .refl _, .rfl⟩
    exact fin ((zabg.add (conC hS (conC (zaqJ AI h5) (con1 (zaqJ AI h6))))).add (con1 (f:=zaab) ha)) rfl q
   | true =>
    simp only [if_true]
    have Ab:=(zaaw h6).1
    have hk:(zaac A.2.ts).kind≠11:=by rw [(zaaw h6).2]; decide
    have gt:=ga.take hk
    have TI:XInv all (zaaB A.2):=h.of_RI hd gt
    have Ad:A.2.deep<=24:=by have:=ga.dn Ab; omega
    have tl:(zaaB A.2).ts.length+1=A.2.ts.length:=zabk AI.ok hk
    have hq:=x_lv (s:=zaaB A.2) Ab (ih .atom (zaaB A.2) TI Ab Ad (by show _+1<=_; omega))
    have gz:RI 1 0 s (RP f .atom (zaaB A.2)).2:=gt.trans Ab (zadq f .atom _ TI.ok TI.bad)
    rw [show plc all (zaaB A.2)=plc all A.2+1 from zagp AI hk] at hq
    generalize RP f .atom (zaaB A.2)=q at hq gz ⊢
    have zI:XInv all q.2:=h.of_RI hd gz
    unfold xQ at ha
    rw [(bad0 Ab).1,(bad0 Ab).2] at ha
    have z:gRaO _ _ _ _ _ _ _ _ _ _ _ _ _ _ _ _:=(zauj (all.map encT) (plc all s) s.deep (s.out.map xE) (plc all A.2) A.2.deep (A.2.out.map xE) A.1 (plc all q.2) q.2.deep (q.2.out.map xE) (badE q.2) (badP q.2) q.1 (zaac A.2.ts).at_).mpr
     ⟨(),⟨trivial, .refl _,rfl⟩,rfl,(),⟨trivial, .refl _,rfl⟩,(),⟨trivial, .refl _,rfl⟩,rfl,(),⟨trivial, .refl _,rfl⟩,rfl,zabJ AI _ rfl,x_in AI,(),⟨trivial, .refl _,rfl⟩,(),⟨trivial,zadM all AI 9 _,rfl⟩, .refl _, .rfl⟩
    exact zajU q.2 9 _ [A.1,q.1] (fin (((zabg.add (conC hS (conC (zafd AI Ab h5) (con1 (zafd AI Ab h6))))).add (conC (f:=zaab) ha (con1 (f:=zaab) hq))).add (con1 (zahh zI 9 (zaac A.2.ts).at_ [A.1,q.1]))) rfl z)
  | true =>
   simp only [if_true]
   have Ab:=(zaaw h5).1
   have hk:(zaac A.2.ts).kind≠11:=by rw [(zaaw h5).2]; decide
   have Ad:A.2.deep<=24:=by have:=ga.dn Ab; omega
   unfold xQ at ha
   rw [(bad0 Ab).1,(bad0 Ab).2] at ha
   have hI:=zafd AI Ab h5
   by_cases h24:24<=A.2.deep
   · obtain ⟨e,hD⟩:=zaie AI Ab hk h24
     rw [e]
     simp only [Bool.false_eq_true,if_false]
     have q:zazK _ _ _ _ _ _ _ _ _ _ _:=(zapX (all.map encT) (plc all s) s.deep (s.out.map xE) (plc all A.2) A.2.deep (A.2.out.map xE) A.1 (badE (zaaW 16 A.2)) (badP (zaaW 16 A.2))).mpr
       ⟨(),⟨trivial, .refl _,rfl⟩,rfl,(),⟨trivial, .refl _,rfl⟩,(),⟨trivial, .refl _,rfl⟩,rfl,zabJ AI _ rfl,(),⟨trivial, .refl _,rfl⟩,rfl, .refl _, .rfl⟩
     have g:=fin (((zabg.add (conC hS (con1 hI))).add (con1 (f:=zaab) ha)).add (con1 (f:=zaaq) hD)) rfl q
     show FOk _ _ _ _ _ ⟨i0 0,xS 1 all (zaaW 16 A.2),_⟩
     rw [zaci]
     exact g
   · obtain ⟨u,e,gu,uI,ub,ud,ud24,ul,uo,hD⟩:=zal5 AI Ab hk h24
     rw [e]
     simp only [if_true]
     have gsu:RI 1 1 s u:=ga.trans Ab gu
     have hu2:=fun b=>zafd uI ub (c:=2) (b:=b)
     have hu1:=fun b=>zafd uI ub (c:=1) (b:=b)
     rw [ud,uo] at hu2 hu1
     by_cases hor:(isR 2 u||isR 1 u)=true
     · simp only [hor,if_true]
       have hq:=x_lv ub (ih .atom u uI ub ud24 (by show _+1<=_; omega))
       have gz:RI 1 0 s (upR (RP f .atom u).2):=RI.up (k:=0) (gsu.trans ub (zadq f .atom u uI.ok uI.bad))
       rw [ud,uo] at hq
       generalize RP f .atom u=q at hq gz ⊢
       have zI:XInv all (upR q.2):=h.of_RI hd gz
       have hadd:=con1 (zahh zI 8 (zaac A.2.ts).at_ [A.1,q.1])
       cases h2:isR 2 u with
       | true =>
         have z:zazJ _ _ _ _ _ _ _ _ _ _ _ _ _ _ _ _ _:=(zapW (all.map encT) (plc all s) s.deep (s.out.map xE) (plc all A.2) A.2.deep (A.2.out.map xE) A.1 (plc all u) (plc all q.2) q.2.deep (q.2.out.map xE) (badE q.2) (badP q.2) q.1 (zaac A.2.ts).at_).mpr
           ⟨(),⟨trivial, .refl _,rfl⟩,rfl,(),⟨trivial, .refl _,rfl⟩,(),⟨trivial, .refl _,rfl⟩,rfl,zabJ AI _ rfl,(),⟨trivial, .refl _,rfl⟩,rfl,(),⟨trivial, .refl _,rfl⟩,rfl,rfl,rfl,(),⟨trivial, .refl _,rfl⟩,deepI zI,(),⟨trivial,zadM all AI 8 _,rfl⟩, .refl _, .rfl⟩
         exact zajU (upR q.2) 8 _ [A.1,q.1] (fin ((((zabg.add (conC hS (conC hI (con1 (hu2 true h2))))).add (conC (f:=zaab) ha (con1 (f:=zaab) hq))).add (con1 (f:=zaaq) hD)).add hadd) rfl z)
       | false =>
         have h1:isR 1 u=true:=by rw [h2] at hor; exact hor
         have z:zazI _ _ _ _ _ _ _ _ _ _ _ _ _ _ _ _ _:=(zapV (all.map encT) (plc all s) s.deep (s.out.map xE) (plc all A.2) A.2.deep (A.2.out.map xE) A.1 (plc all u) (plc all q.2) q.2.deep (q.2.out.map xE) (badE q.2) (badP q.2) q.1 (zaac A.2.ts).at_).mpr
           ⟨(),⟨trivial, .refl _,rfl⟩,rfl,(),⟨trivial, .refl _,rfl⟩,(),⟨trivial, .refl _,rfl⟩,rfl,zabJ AI _ rfl,(),⟨trivial, .refl _,rfl⟩,rfl,(),⟨trivial, .refl _,rfl⟩,rfl,rfl,(),⟨trivial, .refl _,rfl⟩,rfl,(),⟨trivial, .refl _,rfl⟩,deepI zI,(),⟨trivial,zadM all AI 8 _,rfl⟩, .refl _, .rfl⟩
         exact zajU (upR q.2) 8 _ [A.1,q.1] (fin ((((zabg.add (conC hS (conC hI (conC (hu2 false h2) (con1 (hu1 true h1)))))).add (conC (f:=zaab) ha (con1 (f:=zaab) hq))).add (con1 (f:=zaaq) hD)).add hadd) rfl z)
     · simp only [hor,if_false]
       have h2:isR 2 u=false:=by cases g:isR 2 u with | false=>rfl | true=>rw [g] at hor; exact absurd rfl hor
       have h1:isR 1 u=false:=by rw [h2] at hor; cases g:isR 1 u with | false=>rfl | true=>rw [g] at hor; exact absurd rfl hor
       have zI:XInv all (upR u):=h.of_RI hd (RI.up (k:=0) gsu)
       have hadd:=zahh zI 7 (zaac A.2.ts).at_ [A.1]
       have eb:=bad0 ub
       have hadd2:FOk Tryz.prog gl0 zabG (xArg::[rgV 7 (zaac A.2.ts).at_ 0 ByteArray.empty [i0 (A.1:Int)]]) (xHp 0 (all.map encT) (plc all u) (A.2.deep+1-1) (A.2.out.map xE) 0 0)
           ⟨i0 ((A.2.out.map xE).length:Int),xHp 1 (all.map encT) (plc all u) (A.2.deep+1-1) (A.2.out.map xE++[rgV 7 (zaac A.2.ts).at_ 0 ByteArray.empty [i0 (A.1:Int)]]) 0 0,[1048577,1048578]⟩:=by
         have hadd':FOk Tryz.prog gl0 zabG (xArg::[rgV 7 (zaac A.2.ts).at_ 0 ByteArray.empty [i0 (A.1:Int)]]) (xHp 0 (all.map encT) (plc all u) (u.deep-1) (u.out.map xE) (badE u) (badP u))
           ⟨i0 ((u.out.map xE).length:Int),xHp 1 (all.map encT) (plc all u) (u.deep-1) (u.out.map xE++[rgV 7 (zaac A.2.ts).at_ 0 ByteArray.empty [i0 (A.1:Int)]]) (badE u) (badP u),[1048577,1048578]⟩:=hadd
         rw [eb.1,eb.2,uo,ud] at hadd'
         exact hadd'
       have z:zazL _ _ _ _ _ _ _ _ _ _ _:=(zapY (all.map encT) (plc all s) s.deep (s.out.map xE) (plc all A.2) A.2.deep (A.2.out.map xE) A.1 (plc all u) (zaac A.2.ts).at_).mpr
         ⟨(),⟨trivial, .refl _,rfl⟩,rfl,(),⟨trivial, .refl _,rfl⟩,(),⟨trivial, .refl _,rfl⟩,rfl,zabJ AI _ rfl,(),⟨trivial, .refl _,rfl⟩,rfl,(),⟨trivial, .refl _,rfl⟩,rfl,rfl,(),⟨trivial, .refl _,rfl⟩,rfl,by have:=deepI zI; rw [ud] at this; exact this,(),⟨trivial,zadM all AI 7 _,rfl⟩, .refl _, .rfl⟩
       have g:=fin ((((zabg.add (conC hS (conC hI (conC (hu2 false h2) (con1 (hu1 false h1)))))).add (con1 (f:=zaab) ha)).add (con1 (f:=zaaq) hD)).add (con1 hadd2)) rfl z
       refine zajU (upR u) 7 _ [A.1] ?_
       show FOk _ _ _ _ _ ⟨i0 ((u.out.map xE).length:Int),xHp 1 _ (plc all u) (u.deep-1) (u.out.map xE++[rgV 7 _ 0 ByteArray.empty [i0 (A.1:Int)]]) (badE u) (badP u),_⟩
       rw [eb.1,eb.2,uo,ud]
       exact g
end
end Go.Proofs.YtpofhijgccocpaaGreatDoor
end
section
namespace Go.Proofs.YtpofhijgccocpaaGreatDoor
open Go.AS Go.TP
noncomputable section
def zaz2 (os:Orc)(w:ByteArray)(r:AV):Prop:=gF XB [zaa9] zaa9 os [s0 w] r
end
end Go.Proofs.YtpofhijgccocpaaGreatDoor
end
section
namespace Go.Proofs.YtpofhijgccocpaaGreatDoor
open Go Go.AS Go.TP
def zasr:Orc:=Orc.s (Orc.t Orc.z) (Orc.s (Orc.t Orc.z) (Orc.s Orc.z (Orc.s (Orc.t Orc.z) (Orc.s (Orc.t Orc.z) (Orc.s (Orc.t Orc.z) (Orc.s (Orc.t Orc.z) (Orc.s (Orc.t Orc.z) (Orc.s Orc.z (Orc.s (Orc.t Orc.z) (Orc.s (Orc.t Orc.z) (Orc.s Orc.z Orc.z)))))))))))
theorem zaqm (w:ByteArray)(r:AV):zaz2 zasr w r=(let z1:=(AV.tup [i0 1,b0 false]); let z2:=(ByteArray.toList w==ByteArray.toList zaaf); let z3:=(ByteArray.toList w==ByteArray.toList zaai); let z4:=(ByteArray.toList w==ByteArray.toList zaam); let z5:=(ByteArray.toList w==ByteArray.toList zaaX); let z6:=(ByteArray.toList w==ByteArray.toList zaa3); let z7:=(ByteArray.toList w==ByteArray.toList zaaY); let z8:=(ByteArray.toList w==ByteArray.toList zaa8); let z9:=(AV.tup [i0 0,b0 false]); let z10:=(ByteArray.toList w==ByteArray.toList zabC); let z11:=(ByteArray.toList w==ByteArray.toList zabZ); let z12:=(ByteArray.toList w==ByteArray.toList zacx); let z13:=(ByteArray.toList w==ByteArray.toList wAll); let z14:=(ByteArray.toList w==ByteArray.toList wAnc); let z15:=(AV.tup [i0 1,b0 true]); (z13=true->Yt (Wk z9 r/\SameH (hpL []) (hpL [])))/\(z13=false->(z10=true->Yt (Wk z9 r/\SameH (hpL []) (hpL [])))/\(z10=false->(z4=true->Wk z9 r/\SameH (hpL []) (hpL []))/\(z4=false->(z3=true->Yt (Wk z1 r/\SameH (hpL []) (hpL [])))/\(z3=false->(z2=true->Yt (Wk z1 r/\SameH (hpL []) (hpL [])))/\(z2=false->(z14=true->Yt (Wk z1 r/\SameH (hpL []) (hpL [])))/\(z14=false->(z11=true->Yt (Wk z1 r/\SameH (hpL []) (hpL [])))/\(z11=false->(z5=true->Yt (Wk z1 r/\SameH (hpL []) (hpL [])))/\(z5=false->(z6=true->Wk z1 r/\SameH (hpL []) (hpL []))/\(z6=false->(z7=true->Yt (Wk z15 r/\SameH (hpL []) (hpL [])))/\(z7=false->(z12=true->Yt (Wk z15 r/\SameH (hpL []) (hpL [])))/\(z12=false->(z8=true->Wk z15 r/\SameH (hpL []) (hpL []))/\(z8=false->Wk (AV.tup [i0 (-1:Int),b0 false]) r/\SameH (hpL []) (hpL [])))))))))))))):=by kernel_rfl
end Go.Proofs.YtpofhijgccocpaaGreatDoor
end
section
namespace Go.Proofs.YtpofhijgccocpaaGreatDoor
open Go.AS Go.TP
noncomputable section
def zavQ (w:ByteArray):AV:=if w=wAll∨w=zabC∨w=zaam then .tup [i0 0,b0 false] else if w=zaai∨w=zaaf∨w=wAnc∨w=zabZ∨w=zaaX∨w=zaa3 then .tup [i0 1,b0 false] else if w=zaaY∨w=zacx∨w=zaa8 then .tup [i0 1,b0 true] else .tup [i0 (-1),b0 false]
theorem zalT (w:ByteArray):zavQ w=if w=wAll∨w=zabC∨w=zaam then .tup [i0 0,b0 false] else if w=zaai∨w=zaaf∨w=wAnc∨w=zabZ∨w=zaaX∨w=zaa3 then .tup [i0 1,b0 false] else if w=zaaY∨w=zacx∨w=zaa8 then .tup [i0 1,b0 true] else .tup [i0 (-1),b0 false]:=rfl
theorem zaqn (w:ByteArray):zaz2 zasr w (zavQ w):=by
 rw [zaqm,zalT,zaae w wAll,zaae w zabC,zaae w zaam,zaae w zaai,zaae w zaaf,zaae w wAnc,zaae w zabZ,zaae w zaaX,zaae w zaa3,zaae w zaaY,zaae w zacx,zaae w zaa8]
 refine ⟨fun p => ?_,fun n0 => ?_⟩
 · have p:=of_decide_eq_true p; rw [if_pos (.inl p)]; exact ⟨rfl, .refl _, .rfl⟩
 replace n0:=of_decide_eq_false n0
 refine ⟨fun p => ?_,fun n1 => ?_⟩
 · have p:=of_decide_eq_true p; rw [if_pos (.inr (.inl p))]; exact ⟨rfl, .refl _, .rfl⟩
 replace n1:=of_decide_eq_false n1
 refine ⟨fun p => ?_,fun n2 => ?_⟩
 · have p:=of_decide_eq_true p; rw [if_pos (.inr (.inr p))]; exact ⟨.refl _, .rfl⟩
 replace n2:=of_decide_eq_false n2
 refine ⟨fun p => ?_,fun n3 => ?_⟩
 · have p:=of_decide_eq_true p; rw [if_neg (fun q=>q.elim n0 (fun q=>q.elim n1 n2))]; rw [if_pos (.inl p)]; exact ⟨rfl, .refl _, .rfl⟩
 replace n3:=of_decide_eq_false n3
 refine ⟨fun p => ?_,fun n4 => ?_⟩
 · have p:=of_decide_eq_true p; rw [if_neg (fun q=>q.elim n0 (fun q=>q.elim n1 n2))]; rw [if_pos (.inr (.inl p))]; exact ⟨rfl, .refl _, .rfl⟩
 replace n4:=of_decide_eq_false n4
 refine ⟨fun p => ?_,fun n5 => ?_⟩
 · have p:=of_decide_eq_true p; rw [if_neg (fun q=>q.elim n0 (fun q=>q.elim n1 n2))]; rw [if_pos (.inr (.inr (.inl p)))]; exact ⟨rfl, .refl _, .rfl⟩
 replace n5:=of_decide_eq_false n5
 refine ⟨fun p => ?_,fun n6 => ?_⟩
 · have p:=of_decide_eq_true p; rw [if_neg (fun q=>q.elim n0 (fun q=>q.elim n1 n2))]; rw [if_pos (.inr (.inr (.inr (.inl p))))]; exact ⟨rfl, .refl _, .rfl⟩
 replace n6:=of_decide_eq_false n6
 refine ⟨fun p => ?_,fun n7 => ?_⟩
 · have p:=of_decide_eq_true p; rw [if_neg (fun q=>q.elim n0 (fun q=>q.elim n1 n2))]; rw [if_pos (.inr (.inr (.inr (.inr (.inl p)))))]; exact ⟨rfl, .refl _, .rfl⟩
 replace n7:=of_decide_eq_false n7
 refine ⟨fun p => ?_,fun n8 => ?_⟩
 · have p:=of_decide_eq_true p; rw [if_neg (fun q=>q.elim n0 (fun q=>q.elim n1 n2))]; rw [if_pos (.inr (.inr (.inr (.inr (.inr p)))))]; exact ⟨.refl _, .rfl⟩
 replace n8:=of_decide_eq_false n8
 refine ⟨fun p => ?_,fun n9 => ?_⟩
 · have p:=of_decide_eq_true p; rw [if_neg (fun q=>q.elim n0 (fun q=>q.elim n1 n2))]; rw [if_neg (fun q=>q.elim n3 (fun q=>q.elim n4 (fun q=>q.elim n5 (fun q=>q.elim n6 (fun q=>q.elim n7 n8)))))]; rw [if_pos (.inl p)]; exact ⟨rfl, .refl _, .rfl⟩
 replace n9:=of_decide_eq_false n9
 refine ⟨fun p => ?_,fun n10 => ?_⟩
 · have p:=of_decide_eq_true p; rw [if_neg (fun q=>q.elim n0 (fun q=>q.elim n1 n2))]; rw [if_neg (fun q=>q.elim n3 (fun q=>q.elim n4 (fun q=>q.elim n5 (fun q=>q.elim n6 (fun q=>q.elim n7 n8)))))]; rw [if_pos (.inr (.inl p))]; exact ⟨rfl, .refl _, .rfl⟩
 replace n10:=of_decide_eq_false n10
 refine ⟨fun p => ?_,fun n11 => ?_⟩
 · have p:=of_decide_eq_true p; rw [if_neg (fun q=>q.elim n0 (fun q=>q.elim n1 n2))]; rw [if_neg (fun q=>q.elim n3 (fun q=>q.elim n4 (fun q=>q.elim n5 (fun q=>q.elim n6 (fun q=>q.elim n7 n8)))))]; rw [if_pos (.inr (.inr p))]; exact ⟨.refl _, .rfl⟩
 replace n11:=of_decide_eq_false n11
 rw [if_neg (fun q=>q.elim n0 (fun q=>q.elim n1 n2))]; rw [if_neg (fun q=>q.elim n3 (fun q=>q.elim n4 (fun q=>q.elim n5 (fun q=>q.elim n6 (fun q=>q.elim n7 n8)))))]; rw [if_neg (fun q=>q.elim n9 (fun q=>q.elim n10 n11))]; exact ⟨.refl _, .rfl⟩
set_option maxRecDepth 100000 in
theorem zaoe (w:ByteArray):F zaa9 [s0 w] (zavQ w):=F_ok zabg rfl (by kernel_rfl) (by kernel_rfl) (by kernel_rfl) (zaqn w)
end
end Go.Proofs.YtpofhijgccocpaaGreatDoor
end
section
namespace Go.TP
open Go.AS
theorem zaca (s:ByteArray)(i n:Nat)(h:i+n<s.size):zaaa (s.extract i s.size) n=zaaa s (i+n):=by
 unfold zaaa
 have h1:(s.extract i s.size).data=s.data.extract i s.size:=ByteArray.data_extract
 have hs:s.data.size=s.size:=rfl
 rw [h1,Array.getD_eq_getD_getElem?,Array.getD_eq_getD_getElem?,Array.getElem?_eq_getElem (by rw [Array.size_extract]; omega),Array.getElem?_eq_getElem (by omega),Array.getElem_extract]
theorem zavz (s:ByteArray)(i j:Nat)(h:i+j<=s.size):(s.extract i s.size).extract 0 j=s.extract i (i+j):=by
 rw [ByteArray.extract_extract]; congr 1 <;> omega
theorem zafD (s:ByteArray)(a b:UInt8)(p:ByteArray)(hp:p=⟨#[a,b]⟩):hasP s p=(decide (1<s.size)&&(decide (zaaa s 0=a.toNat)&&decide (zaaa s 1=b.toNat))):=by
 subst hp
 unfold hasP
 show (decide (2<=s.size)&&decide (s.extract 0 2=_))=_
 by_cases h:1<s.size
 · rw [decide_eq_true (show 2<=s.size by omega),decide_eq_true h,Bool.true_and,Bool.true_and]
   have hs:s.data.size=s.size:=rfl
   have b0:zaaa s 0=(s.data[0]'(by omega)).toNat:=by unfold zaaa; rw [Array.getD_eq_getD_getElem?,Array.getElem?_eq_getElem (by omega)]; rfl
   have b1:zaaa s 1=(s.data[1]'(by omega)).toNat:=by unfold zaaa; rw [Array.getD_eq_getD_getElem?,Array.getElem?_eq_getElem (by omega)]; rfl
   have e:(s.extract 0 2=(⟨#[a,b]⟩:ByteArray))↔(zaaa s 0=a.toNat/\zaaa s 1=b.toNat):=by
     have hd:(s.extract 0 2).data=s.data.extract 0 2:=ByteArray.data_extract
     constructor
     · intro h2
       have h3:s.data.extract 0 2 = #[a,b]:=by rw [<-hd,h2]
       have g0:(s.data.extract 0 2)[0]?=some a:=by rw [h3]; rfl
       have g1:(s.data.extract 0 2)[1]?=some b:=by rw [h3]; rfl
       rw [Array.getElem?_eq_getElem (by rw [Array.size_extract]; omega),Array.getElem_extract] at g0 g1
       have g0:=Option.some.inj g0
       have g1:=Option.some.inj g1
       exact ⟨by rw [b0]; exact congrArg UInt8.toNat g0,by rw [b1]; exact congrArg UInt8.toNat g1⟩
     · rintro ⟨h1,h2⟩
       apply ByteArray.ext
       rw [hd]
       apply Array.ext
       · rw [Array.size_extract]; show _=2; omega
       · intro j hj _
         rw [Array.size_extract] at hj
         rw [Array.getElem_extract]
         match j,hj with
         | 0,_=>exact UInt8.toNat_inj.1 (b0.symm.trans h1)
         | 1,_=>exact UInt8.toNat_inj.1 (b1.symm.trans h2)
         | j+2,hj=>omega
   rw [show decide (s.extract 0 2=(⟨#[a,b]⟩:ByteArray))=decide (zaaa s 0=a.toNat/\zaaa s 1=b.toNat) from decide_eq_decide.2 e,Bool.decide_and]
 · rw [decide_eq_false (show ¬2<=s.size by omega),decide_eq_false h]; rfl
theorem zags (s:ByteArray):∀ (f g:Nat) (n:Int),s.size-n<=f->s.size-n<=g->zadL s f n=zadL s g n
 | 0,0,n,_,_=>rfl
 | 0,g+1,n,h,_=>by rw [zadL,zadL,if_neg (by omega)]
 | f+1,0,n,_,h=>by rw [zadL,zadL,if_neg (by omega)]
 | f+1,g+1,n,h1,h2=>by
  rw [zadL,zadL,zags s f g (n+1) (by omega) (by omega)]
theorem zaig {s:ByteArray}(h0:0<s.size)(h:zaaI (zaaa s 0)=true):zagr s=zadL s s.size 1/\0<zagr s:=by
 have e:zagr s=zadL s s.size 1:=by
  unfold zagr
  cases hs:s.size with
  | zero=>omega
  | succ m =>
   rw [zadL,if_pos ⟨by rw [hs]; omega,h⟩]
   show zadL s m 1=zadL s (m+1) 1
   exact zags s m (m+1) 1 (by omega) (by omega)
 refine ⟨e,?_⟩
 have:∀ (f:Nat) (n:Int),n<=zadL s f n:=by
  intro f
  induction f with
  | zero=>intro n; exact Int.le_refl _
  | succ f ih =>
   intro n; rw [zadL]
   split
   · have:=ih (n+1); omega
   · exact Int.le_refl _
 have:=this s.size 1
 omega
def numN (x:ByteArray):Int:=if x.data.toList.all zadV=true/\0<x.size/\x.size<=6 then numB x.data.toList else -1
theorem zanR:∀ (l:List UInt8) (a:Int),0<=a->l.all zadV=true->0<=l.foldl (fun a c=>10*a+(c.toNat-48:Int)) a
 | [],a,h,_=>h
 | c::l,a,h,hl=>by
  rw [List.all_cons,Bool.and_eq_true] at hl
  have h1:(48<=c&&c<=57)=true:=hl.1
  rw [Bool.and_eq_true,decide_eq_true_iff] at h1
  have h2:48<=c.toNat:=h1.1
  exact zanR l (10*a+(c.toNat-48)) (by omega) hl.2
theorem zajo (t:Tk):zaez t=if t.kind=1 then (if 0<=numN t.text then some (numN t.text) else none) else none:=by
 unfold zaez numN
 by_cases hk:t.kind=1
 · rw [if_pos hk]
   by_cases h:t.text.data.toList.all zadV=true/\0<t.text.size/\t.text.size<=6
   · rw [if_pos ⟨hk,h⟩,if_pos h,if_pos (show 0<=numB t.text.data.toList from zanR _ 0 (Int.le_refl _) h.1)]
   · rw [if_neg (fun q=>h q.2),if_neg h,if_neg (by decide)]
 · rw [if_neg (fun q=>hk q.1),if_neg hk]
end Go.TP
end
section
namespace Go.Proofs.YtpofhijgccocpaaGreatDoor
open Go.AS Go.TP
noncomputable section
def zaln:Nat:=157
theorem zal3 {c:Nat}(hc:c<256):F zaln [c0 c] (i0 (zadj c)) :=
 zawK (n:=100) (zalU (p:=fun c=>isI (S X0 100 zaln [c0 c] 1 .nil []) (zadj c)) (by kernel_rfl) hc)
theorem zaje {c:Nat}(hc:c<256):F zalm [c0 c] (b0 (zaaI c)) :=
 zazD (n:=100) (zalU (p:=fun c=>isB (S X0 100 zalm [c0 c] 1 .nil []) (zaaI c)) (by kernel_rfl) hc)
def zakl:Sp := .pure Nat (fun c=>c<256) (fun c=>[c0 c]) (fun c=>i0 (zadj c))
def zanw:Sp := .pure Nat (fun c=>c<256) (fun c=>[c0 c]) (fun c=>b0 (zaaI c))
def XJ:WX:=(XB.add zaln (Sp.con [zakl])).add zalm (Sp.con [zanw])
theorem zajb:XJ.Sound:=(zabg.add (zaoa (s:=zakl) fun _ h=>zal3 h)).add (zaoa (s:=zanw) fun _ h=>zaje h)
def zazC:Ex->List Nat
 | .ret=>[2]
 | _=>[0]
abbrev lpJP (P:Prop)(x:ByteArray)(i:Int)(r:Ex × Back):Lp:=Lp1 [0,3] [] zazC P [s0 x,i0 i] .nil r
abbrev jEnd (x:ByteArray):Ex × Back:=(.exit 0,⟨.tup [s0 x], .nil,[]⟩)
abbrev jBad:Ex × Back:=(.ret,⟨.tup [b0 false], .nil,[]⟩)
def rJP (os:Orc)(P:Prop)(x:ByteArray)(i:Int)(r r':Ex × Back):Prop:=runL (XJ.ask [zaaA]) 8 zaaA (fn zaaA).ntmps (zabw (code zaaA) 0) (lpJP P x (i+1) r') (lpJP P x (i+1) r') os 0 [] [s0 x,i0 i] .nil r
def rJPE (os:Orc)(P:Prop)(x:ByteArray)(i:Int):Prop:=rJP os P x i (jEnd x) (jEnd x)
def rJPX (os:Orc)(P:Prop)(x:ByteArray)(i:Int):Prop:=rJP os P x i jBad jBad
def rJPA (os:Orc)(P:Prop)(x:ByteArray)(i:Int):Prop:=rJP os P x i (jEnd x) (jEnd x)
def rJPB (os:Orc)(P:Prop)(x:ByteArray)(i:Int):Prop:=rJP os P x i jBad jBad
def gJP (os:Orc)(x:ByteArray)(q:Ex × Back)(b:Bool):Prop:=runF ((XJ.addLp zaaA 0 (lpJP True x 0 q)).ask [zaaA]) 10 zaaA (fn zaaA) (code zaaA) os 0 [] [s0 x] .nil ⟨b0 b, .nil,[]⟩
def gJPX (os:Orc)(x:ByteArray):Prop:=gJP os x jBad false
def gJPE (os:Orc)(x:ByteArray)(b:Bool):Prop:=gJP os x (jEnd x) b
def zasL:Ex->List Nat
 | .ret=>[2]
 | _=>[3]
abbrev lpJN (P:Prop)(x:ByteArray)(i n:Int)(r:Ex × Back):Lp:=Lp1 [0,3,4] [] zasL P [s0 x,i0 n,i0 i] .nil r
abbrev zanV (n:Int):Ex × Back:=(.exit 0,⟨.tup [i0 n], .nil,[]⟩)
abbrev zapM:Ex × Back:=(.ret,⟨.tup [i0 (-1)], .nil,[]⟩)
def rJN (os:Orc)(P:Prop)(x:ByteArray)(i n i' n':Int)(r r':Ex × Back):Prop:=runL (XB.ask [zaag]) 8 zaag (fn zaag).ntmps (zabw (code zaag) 0) (lpJN P x i' n' r') (lpJN P x i' n' r') os 0 [] [s0 x,i0 n,i0 i] .nil r
def rJNE (os:Orc)(P:Prop)(x:ByteArray)(i n:Int):Prop:=rJN os P x i n i n (zanV n) (zanV n)
def rJNX (os:Orc)(P:Prop)(x:ByteArray)(i n:Int):Prop:=rJN os P x i n i n zapM zapM
def rJNA (os:Orc)(P:Prop)(x:ByteArray)(i n n' m:Int):Prop:=rJN os P x i n (i+1) n' (zanV m) (zanV m)
def rJNB (os:Orc)(P:Prop)(x:ByteArray)(i n n':Int):Prop:=rJN os P x i n (i+1) n' zapM zapM
def gJN (os:Orc)(x:ByteArray)(q:Ex × Back)(m:Int):Prop:=runF ((XB.addLp zaag 0 (lpJN True x 0 0 q)).ask [zaag]) 10 zaag (fn zaag) (code zaag) os 0 [] [s0 x] .nil ⟨i0 m, .nil,[]⟩
def gJNL (os:Orc)(x:ByteArray):Prop:=runF (XB.ask [zaag]) 10 zaag (fn zaag) (code zaag) os 0 [] [s0 x] .nil ⟨i0 (-1), .nil,[]⟩
def gJNM (os:Orc)(x:ByteArray):Prop:=gJNL os x
def gJNX (os:Orc)(x:ByteArray):Prop:=gJN os x zapM (-1)
def gJNE (os:Orc)(x:ByteArray)(m:Int):Prop:=gJN os x (zanV m) m
end
end Go.Proofs.YtpofhijgccocpaaGreatDoor
end
section
namespace Go.Proofs.YtpofhijgccocpaaGreatDoor
open Go Go.AS Go.TP
theorem zarZ (P:Prop)(x:ByteArray)(i:Int):rJPE (Orc.f Orc.z) P x i=(decide (i<(↑(ByteArray.size x):Int))=false/\Ex.exit 0=Ex.exit 0/\Wk (AV.tup [s0 x]) (AV.tup [s0 x])/\SameH (hpL []) (hpL [])):=by kernel_rfl
theorem zarX (P:Prop)(x:ByteArray)(i:Int):rJPX (Orc.t (Orc.t Orc.z)) P x i=(decide (i<(↑(ByteArray.size x):Int))=true/\decide ((0:Int)<=i/\i<(↑(ByteArray.size x):Int))=true/\∃ (i1:Nat),(i1<256/\Wks [AV.lit (Value.int IntKind.u8 (↑(zaaa x (Int.toNat i)):Int))] [AV.lit (Value.int IntKind.u8 (↑i1:Int))]/\hpL []=hpL [])/\decide (zadj i1<0)=true/\Ex.ret=Ex.ret/\Wk (AV.tup [b0 false]) (AV.tup [b0 false])/\SameH (hpL []) (hpL [])):=by kernel_rfl
theorem zar2 (P:Prop)(x:ByteArray)(i:Int):rJPA (Orc.t (Orc.f Orc.z)) P x i=(decide (i<(↑(ByteArray.size x):Int))=true/\decide ((0:Int)<=i/\i<(↑(ByteArray.size x):Int))=true/\∃ (i1:Nat),(i1<256/\Wks [AV.lit (Value.int IntKind.u8 (↑(zaaa x (Int.toNat i)):Int))] [AV.lit (Value.int IntKind.u8 (↑i1:Int))]/\hpL []=hpL [])/\decide (zadj i1<0)=false/\inR IntKind.i64 (i+1)=true/\∃ (_:Unit),(P/\Wks [s0 x,i0 (i+1)] [s0 x,i0 (i+1)]/\hpL []=hpL [])/\Ex.exit 0=Ex.exit 0/\Wk (AV.tup [s0 x]) (AV.tup [s0 x])/\SameH (hpL []) (hpL [])):=by kernel_rfl
theorem zar0 (P:Prop)(x:ByteArray)(i:Int):rJPB (Orc.t (Orc.f Orc.z)) P x i=(decide (i<(↑(ByteArray.size x):Int))=true/\decide ((0:Int)<=i/\i<(↑(ByteArray.size x):Int))=true/\∃ (i1:Nat),(i1<256/\Wks [AV.lit (Value.int IntKind.u8 (↑(zaaa x (Int.toNat i)):Int))] [AV.lit (Value.int IntKind.u8 (↑i1:Int))]/\hpL []=hpL [])/\decide (zadj i1<0)=false/\inR IntKind.i64 (i+1)=true/\∃ (_:Unit),(P/\Wks [s0 x,i0 (i+1)] [s0 x,i0 (i+1)]/\hpL []=hpL [])/\Ex.ret=Ex.ret/\Wk (AV.tup [b0 false]) (AV.tup [b0 false])/\SameH (hpL []) (hpL [])):=by kernel_rfl
theorem zauR (x:ByteArray):gJPX (Orc.z) x=(U1 [s0 x,i0 0] [] (Wk (b0 false) (b0 false)/\SameH (hpL []) (hpL []))):=by kernel_rfl
def zazh:Orc:=Orc.s (Orc.t (Orc.t Orc.z)) (Orc.f (Orc.f Orc.z))
theorem zauS (x:ByteArray)(b:Bool):gJPE zazh x b=(let z1:=(↑(ByteArray.size x):Int); U1 [s0 x,i0 0] [] ((decide (z1>=1)=true->Yt (Yt (Wk (b0 (decide (z1<=64))) (b0 b)/\SameH (hpL []) (hpL []))))/\(decide (z1>=1)=false->Nf (Nf (Wk (b0 false) (b0 b)/\SameH (hpL []) (hpL [])))))):=by kernel_rfl
theorem zar6 (P:Prop)(x:ByteArray)(i n:Int):rJNE (Orc.f Orc.z) P x i n=(decide (i<(↑(ByteArray.size x):Int))=false/\Ex.exit 0=Ex.exit 0/\Wk (AV.tup [i0 n]) (AV.tup [i0 n])/\SameH (hpL []) (hpL [])):=by kernel_rfl
def zayu:Orc:=Orc.t (Orc.s (Orc.t (Orc.t (Orc.t (Orc.t Orc.z)))) (Orc.f (Orc.f (Orc.f (Orc.t Orc.z)))))
theorem zar4 (P:Prop)(x:ByteArray)(i n:Int):rJNX zayu P x i n=(let z1:=(AV.tup [i0 (-1:Int)]); let z2:=(↑(zaaa x (Int.toNat i)):Int); let z3:=(↑(ByteArray.size x):Int); decide (i<z3)=true/\decide ((0:Int)<=i/\i<z3)=true/\(decide (z2<48)=true->Yt4 (Ex.ret=Ex.ret/\Wk z1 z1/\SameH (hpL []) (hpL [])))/\(decide (z2<48)=false->Nf (Nf (decide ((0:Int)<=i/\i<z3)=true/\Nf (decide (z2>57)=true/\Ex.ret=Ex.ret/\Wk z1 z1/\SameH (hpL []) (hpL [])))))):=by kernel_rfl
def zayw:Orc:=Orc.t (HF (Orc.f Orc.z))
theorem zar9 (P:Prop)(x:ByteArray)(i n:Int)(n' m:Int):rJNA zayw P x i n n' m=(let z1:=(↑(zaaa x (Int.toNat i)):Int); let z2:=((0:Int)<=i/\i<(↑(ByteArray.size x):Int)); let z3:=((10:Int)*n+IntKind.wrap IntKind.u8 (z1-48)); decide (i<(↑(ByteArray.size x):Int))=true/\decide z2=true/\decide (z1<48)=false/\Nf (Nf (decide z2=true/\Nf (decide (z1>57)=false/\inR IntKind.i64 ((10:Int)*n)=true/\decide z2=true/\Yt (inR IntKind.i64 (IntKind.wrap IntKind.u8 (z1-48))=true/\inR IntKind.i64 z3=true/\inR IntKind.i64 (i+1)=true/\∃ (_:Unit),(P/\Wks [s0 x,i0 z3,i0 (i+1)] [s0 x,i0 n',i0 (i+1)]/\hpL []=hpL [])/\Ex.exit 0=Ex.exit 0/\Wk (AV.tup [i0 m]) (AV.tup [i0 m])/\SameH (hpL []) (hpL [])))))):=by kernel_rfl
def zayv:Orc:=Orc.t (HF (Orc.f Orc.z))
theorem zar7 (P:Prop)(x:ByteArray)(i n n':Int):rJNB zayv P x i n n'=(let z1:=(↑(zaaa x (Int.toNat i)):Int); let z2:=((0:Int)<=i/\i<(↑(ByteArray.size x):Int)); let z3:=((10:Int)*n+IntKind.wrap IntKind.u8 (z1-48)); decide (i<(↑(ByteArray.size x):Int))=true/\decide z2=true/\decide (z1<48)=false/\Nf (Nf (decide z2=true/\Nf (decide (z1>57)=false/\inR IntKind.i64 ((10:Int)*n)=true/\decide z2=true/\Yt (inR IntKind.i64 (IntKind.wrap IntKind.u8 (z1-48))=true/\inR IntKind.i64 z3=true/\inR IntKind.i64 (i+1)=true/\∃ (_:Unit),(P/\Wks [s0 x,i0 z3,i0 (i+1)] [s0 x,i0 n',i0 (i+1)]/\hpL []=hpL [])/\Ex.ret=Ex.ret/\Wk (AV.tup [i0 (-1:Int)]) (AV.tup [i0 (-1:Int)])/\SameH (hpL []) (hpL [])))))):=by kernel_rfl
def zazk:Orc:=Orc.t (Orc.t (Orc.t (Orc.t Orc.z)))
theorem zauW (x:ByteArray):gJNL zazk x=(decide ((↑(ByteArray.size x):Int)<1)=true/\Yt (Yt (Yt (Wk (i0 (-1:Int)) (i0 (-1:Int))/\SameH (hpL []) (hpL []))))):=by kernel_rfl
def zazj:Orc:=Orc.f (Orc.f (Orc.f (Orc.t Orc.z)))
theorem zauV (x:ByteArray):gJNM zazj x=(decide ((↑(ByteArray.size x):Int)<1)=false/\Nf (Nf (decide ((↑(ByteArray.size x):Int)>6)=true/\Wk (i0 (-1:Int)) (i0 (-1:Int))/\SameH (hpL []) (hpL [])))):=by kernel_rfl
def zazi:Orc:=Orc.f (Orc.f (Orc.f (Orc.f Orc.z)))
theorem zauU (x:ByteArray):gJNX zazi x=(decide ((↑(ByteArray.size x):Int)<1)=false/\Nf (Nf (decide ((↑(ByteArray.size x):Int)>6)=false/\U1 [s0 x,i0 0,i0 0] [] (Wk (i0 (-1:Int)) (i0 (-1:Int))/\SameH (hpL []) (hpL []))))):=by kernel_rfl
def zazl:Orc:=Orc.f (Orc.f (Orc.f (Orc.f Orc.z)))
theorem zauX (x:ByteArray)(m:Int):gJNE zazl x m=(decide ((↑(ByteArray.size x):Int)<1)=false/\Nf (Nf (decide ((↑(ByteArray.size x):Int)>6)=false/\U1 [s0 x,i0 0,i0 0] [] (Wk (i0 m) (i0 m)/\SameH (hpL []) (hpL []))))):=by kernel_rfl
end Go.Proofs.YtpofhijgccocpaaGreatDoor
end
section
namespace Go.Proofs.YtpofhijgccocpaaGreatDoor
open Go.AS Go.TP
noncomputable section
abbrev BJP (xs:List AV)(r:Ex × Back):Prop:=zadp Tryz.prog gl0 (fn zaaA).ntmps (zabw (code zaaA) 0) [0,3] zazC xs .nil fun _ q=>q=r
set_option maxRecDepth 100000 in
theorem zagV {os:Orc}{P:Prop}{x:ByteArray}{i:Int}{r r':Ex × Back}(ih:P->BJP [s0 x,i0 (i+1)] r')(h:rJP os P x i r r'):BJP [s0 x,i0 i] r :=
 zacD (X:=XJ.ask [zaaA]) (zajb.ask _) (fnOk zaaA (by kernel_rfl)) (show (fn zaaA).body=some (code zaaA) by kernel_rfl) (by decide) ih h
theorem zanF {P:Prop}{x:ByteArray}{i:Int}(h:¬i<x.size):rJPE (Orc.f Orc.z) P x i:=by
 rw [zarZ]; exact ⟨decide_eq_false h,rfl, .refl _, .rfl⟩
theorem zarY {P:Prop}{x:ByteArray}{i:Int}(h0:0<=i)(h:i<x.size)(hd:hexQ (zaaa x i.toNat)=false):rJPX (Orc.t (Orc.t Orc.z)) P x i:=by
 rw [zarX]; exact ⟨decide_eq_true h,decide_eq_true ⟨h0,h⟩,_,⟨zaaS x i.toNat, .refl _,rfl⟩,decide_eq_true (zab5.2 hd),rfl, .refl _, .rfl⟩
theorem zar3 {P:Prop}{x:ByteArray}{i:Int}(hx:x.size<=1000000)(h0:0<=i)(h:i<x.size)(hd:hexQ (zaaa x i.toNat)=true)(hP:P):rJPA (Orc.t (Orc.f Orc.z)) P x i:=by
 rw [zar2]; exact ⟨decide_eq_true h,decide_eq_true ⟨h0,h⟩,_,⟨zaaS x i.toNat, .refl _,rfl⟩,decide_eq_false (fun k=>by rw [zab5.1 k] at hd; cases hd),zaao (by omega) (by omega),(),⟨hP, .refl _,rfl⟩,rfl, .refl _, .rfl⟩
theorem zar1 {P:Prop}{x:ByteArray}{i:Int}(hx:x.size<=1000000)(h0:0<=i)(h:i<x.size)(hd:hexQ (zaaa x i.toNat)=true)(hP:P):rJPB (Orc.t (Orc.f Orc.z)) P x i:=by
 rw [zar0]; exact ⟨decide_eq_true h,decide_eq_true ⟨h0,h⟩,_,⟨zaaS x i.toNat, .refl _,rfl⟩,decide_eq_false (fun k=>by rw [zab5.1 k] at hd; cases hd),zaao (by omega) (by omega),(),⟨hP, .refl _,rfl⟩,rfl, .refl _, .rfl⟩
attribute [local irreducible] runL in
set_option maxRecDepth 100000 in
theorem jpL (x:ByteArray)(hx:x.size<=1000000):∀ (f:Nat) (i:Int),0<=i->x.size-i<=f->BJP [s0 x,i0 i] (if zaa0 zadB x i=true then jEnd x else jBad):=by
 intro f
 induction f with
 | zero=>intro i h0 h1; rw [if_pos (zabf (by omega))]; exact zagV (P:=False) (r':=jEnd x) (fun h=>h.elim) (zanF (by omega))
 | succ f ih =>
  intro i h0 h1
  by_cases hi:i<x.size
  · have ih:=ih (i+1) (by omega) (by omega)
    rw [zacg zak5 h0 hi]
    cases hd:hexQ (zaaa x i.toNat) with
    | false=>rw [Bool.false_and,if_neg (by decide)]; exact zagV (P:=False) (r':=jBad) (fun h=>h.elim) (zarY h0 hi hd)
    | true =>
      rw [Bool.true_and]
      by_cases ha:zaa0 zadB x (i+1)=true
      · rw [if_pos ha] at ih ⊢; exact zagV (P:=True) (fun _=>ih) (zar3 hx h0 hi hd trivial)
      · rw [if_neg ha] at ih ⊢; exact zagV (P:=True) (fun _=>ih) (zar1 hx h0 hi hd trivial)
  · rw [if_pos (zabf hi)]; exact zagV (P:=False) (r':=jEnd x) (fun h=>h.elim) (zanF hi)
set_option maxRecDepth 100000 in
theorem zaAD {x:ByteArray}{q:Ex × Back}(h:BJP [s0 x,i0 0] q):(XJ.addLp zaaA 0 (lpJP True x 0 q)).Sound :=
 zajb.addLp (fnOk zaaA (by kernel_rfl)) (show (fn zaaA).body=some (code zaaA) by kernel_rfl) (by kernel_rfl)
  (Spl.ok (l:=[⟨Unit,fun _=>True,fun _=>[s0 x,i0 0],fun _ => .nil,fun _=>q⟩]) rfl (show ([0,3]:List Nat).Nodup by decide) fun s' hs' i _=>by obtain rfl:=List.mem_singleton.1 hs'; exact h)
attribute [local irreducible] runF in
set_option maxRecDepth 100000 in
theorem jpFn {x:ByteArray}{q:Ex × Back}{os:Orc}{b:Bool}(h:BJP [s0 x,i0 0] q)(hg:gJP os x q b):F zaaA [s0 x] (b0 b) :=
 zadS (X:=(XJ.addLp zaaA 0 (lpJP True x 0 q)).ask [zaaA]) (d:=10) ((zaAD h).ask _) (f:=zaaA) (fn:=fn zaaA) (code:=code zaaA) (fnOk zaaA (by kernel_rfl)) (show (fn zaaA).body=some (code zaaA) by kernel_rfl) (by kernel_rfl) hg
theorem zauT (x:ByteArray):gJPE zazh x (decide (0<x.size)&&decide (x.size<=64)):=by
 rw [zauS]
 try dsimp only
 refine ⟨(),⟨trivial, .refl _,rfl⟩,fun h => ?_,fun h => ?_⟩
 · have h:=of_decide_eq_true h
   refine ⟨rfl,rfl, .of_eq ?_, .rfl⟩
   rw [decide_eq_true (show 0<x.size by omega),Bool.true_and]
   exact congrArg (fun b=>b0 b) (decide_eq_decide.2 ⟨fun h=>by omega,fun h=>by omega⟩)
 · have h:=of_decide_eq_false h
   refine ⟨rfl,rfl, .of_eq ?_, .rfl⟩
   rw [decide_eq_false (show ¬0<x.size by omega)]; rfl
attribute [local irreducible] runF runL in
set_option maxRecDepth 100000 in
theorem zanp (x:ByteArray)(hx:x.size<=1000000):F zaaA [s0 x] (b0 (zaar x)):=by
 have h:=jpL x hx x.size 0 (Int.le_refl _) (by omega)
 have e:zaar x=(zaa0 zadB x 0&&(decide (0<x.size)&&decide (x.size<=64))):=by
  unfold zaar zaa0; rw [show (0:Int).toNat=0 from rfl,List.drop_zero,Bool.and_assoc]
 rw [e]
 cases ha:zaa0 zadB x 0 with
 | true=>rw [ha,if_pos rfl] at h; rw [Bool.true_and]; exact jpFn h (zauT x)
 | false =>
  rw [ha,if_neg (by decide)] at h; rw [Bool.false_and]
  exact jpFn h (show gJPX Orc.z x from by rw [zauR]; exact ⟨(),⟨trivial, .refl _,rfl⟩, .refl _, .rfl⟩)
abbrev BJN (xs:List AV)(r:Ex × Back):Prop:=zadp Tryz.prog gl0 (fn zaag).ntmps (zabw (code zaag) 0) [0,3,4] zasL xs .nil fun _ q=>q=r
set_option maxRecDepth 100000 in
theorem zasK {os:Orc}{P:Prop}{x:ByteArray}{i n i' n':Int}{r r':Ex × Back}(ih:P->BJN [s0 x,i0 n',i0 i'] r')(h:rJN os P x i n i' n' r r'):BJN [s0 x,i0 n,i0 i] r :=
 zacD (X:=XB.ask [zaag]) (zabg.ask _) (fnOk zaag (by kernel_rfl)) (show (fn zaag).body=some (code zaag) by kernel_rfl) (by decide) ih h
theorem zanG {P:Prop}{x:ByteArray}{i n:Int}(h:¬i<x.size):rJNE (Orc.f Orc.z) P x i n:=by
 rw [zar6]; exact ⟨decide_eq_false h,rfl, .refl _, .rfl⟩
theorem zar5 {P:Prop}{x:ByteArray}{i n:Int}(h0:0<=i)(h:i<x.size)(hd:digQ (zaaa x i.toNat)=false):rJNX zayu P x i n:=by
 rw [zar4]
 refine ⟨decide_eq_true h,decide_eq_true ⟨h0,h⟩,fun g=>⟨rfl,rfl,rfl,rfl,rfl, .refl _, .rfl⟩,fun g=>⟨rfl,rfl,decide_eq_true ⟨h0,h⟩,rfl,decide_eq_true ?_,rfl, .refl _, .rfl⟩⟩
 have g:¬((zaaa x i.toNat:Int)<48):=of_decide_eq_false g
 show (zaaa x i.toNat:Int)>57
 unfold digQ at hd
 have:¬(48<=zaaa x i.toNat/\zaaa x i.toNat<=57):=fun q=>by rw [decide_eq_true q.1,decide_eq_true q.2] at hd; cases hd
 omega
theorem zaj0 {c:Nat}(h:48<=c/\c<=57):IntKind.wrap IntKind.u8 ((c:Int)-48)=(c:Int)-48:=by
 refine zad9 ?_
 show (decide _&&decide _)=true
 rw [decide_eq_true (show (0:Int)<=(c:Int)-48 by omega),decide_eq_true (show (c:Int)-48<2 ^ IntKind.u8.bits from by show (c:Int)-48<256; omega)]; rfl
theorem zas {P:Prop}{x:ByteArray}{i n m:Int}(hx:x.size<=1000000)(h0:0<=i)(h:i<x.size)(hn:0<=n/\n<=1000000)(hd:digQ (zaaa x i.toNat)=true)(hP:P):rJNA zayw P x i n (10*n+((zaaa x i.toNat:Int)-48)) m:=by
 have hc:=zaqs hd
 rw [zar9]
 try dsimp only
 rw [zaj0 hc]
 exact ⟨decide_eq_true h,decide_eq_true ⟨h0,h⟩,decide_eq_false (show ¬((zaaa x i.toNat:Int)<48) by omega),rfl,rfl,decide_eq_true ⟨h0,h⟩,rfl,decide_eq_false (show ¬((zaaa x i.toNat:Int)>57) by omega),zaao (by omega) (by omega),decide_eq_true ⟨h0,h⟩,rfl,zaao (by omega) (by omega),zaao (by omega) (by omega),zaao (by omega) (by omega),(),⟨hP, .refl _,rfl⟩,rfl, .refl _, .rfl⟩
theorem zar8 {P:Prop}{x:ByteArray}{i n:Int}(hx:x.size<=1000000)(h0:0<=i)(h:i<x.size)(hn:0<=n/\n<=1000000)(hd:digQ (zaaa x i.toNat)=true)(hP:P):rJNB zayv P x i n (10*n+((zaaa x i.toNat:Int)-48)):=by
 have hc:=zaqs hd
 rw [zar7]
 try dsimp only
 rw [zaj0 hc]
 exact ⟨decide_eq_true h,decide_eq_true ⟨h0,h⟩,decide_eq_false (show ¬((zaaa x i.toNat:Int)<48) by omega),rfl,rfl,decide_eq_true ⟨h0,h⟩,rfl,decide_eq_false (show ¬((zaaa x i.toNat:Int)>57) by omega),zaao (by omega) (by omega),decide_eq_true ⟨h0,h⟩,rfl,zaao (by omega) (by omega),zaao (by omega) (by omega),zaao (by omega) (by omega),(),⟨hP, .refl _,rfl⟩,rfl, .refl _, .rfl⟩
def numF (l:List UInt8)(a:Int):Int:=l.foldl (fun a c=>10*a+(c.toNat-48:Int)) a
theorem zamD (x:ByteArray){i:Int}(h0:0<=i)(h:i<x.size)(a:Int):numF (x.data.toList.drop i.toNat) a=numF (x.data.toList.drop (i+1).toNat) (10*a+((zaaa x i.toNat:Int)-48)):=by
 have hl:i.toNat<x.data.toList.length:=by rw [Array.length_toList]; have:x.data.size=x.size:=rfl; omega
 have hl':i.toNat<x.data.size:=by rw [<-Array.length_toList]; exact hl
 have e:(i+1).toNat=i.toNat+1:=by omega
 rw [List.drop_eq_getElem_cons hl,e]
 unfold numF
 rw [List.foldl_cons]
 congr 2
 unfold zaaa
 rw [Array.getD_eq_getD_getElem?,Array.getElem?_eq_getElem hl']; rfl
theorem zaAt:∀ k:Nat,k<=6->(10:Int) ^ k<=1000000:=by decide
attribute [local irreducible] runL in
set_option maxRecDepth 100000 in
theorem jnLp (x:ByteArray)(hx:x.size<=6):∀ (f:Nat) (i n:Int),0<=i->i<=x.size->x.size-i<=f->0<=n/\n<10 ^ i.toNat->BJN [s0 x,i0 n,i0 i] (if zaa0 zadV x i=true then zanV (numF (x.data.toList.drop i.toNat) n) else zapM):=by
 intro f
 induction f with
 | zero =>
  intro i n h0 h2 h1 _
  have e:x.data.toList.drop i.toNat=[]:=List.drop_of_length_le (by rw [Array.length_toList]; have:x.data.size=x.size:=rfl; omega)
  rw [if_pos (zabf (by omega)),e]; exact zasK (P:=False) (i':=i) (n':=n) (r':=zanV n) (fun h=>h.elim) (zanG (by omega))
 | succ f ih =>
  intro i n h0 h2 h1 hn
  by_cases hi:i<x.size
  · have hp:=zaAt i.toNat (by omega)
    have hn':0<=n/\n<=1000000:=⟨hn.1,by omega⟩
    rw [zacg zavF h0 hi,zamD x h0 hi]
    cases hd:digQ (zaaa x i.toNat) with
    | false=>rw [Bool.false_and,if_neg (by decide)]; exact zasK (P:=False) (i':=i) (n':=n) (r':=zapM) (fun h=>h.elim) (zar5 h0 hi hd)
    | true =>
      have hc:=zaqs hd
      have ih:=ih (i+1) (10*n+((zaaa x i.toNat:Int)-48)) (by omega) (by omega) (by omega) (by
        have e:(i+1).toNat=i.toNat+1:=by omega
        rw [e,Int.pow_succ]
        generalize (10:Int) ^ i.toNat=p at hn hp
        omega)
      rw [Bool.true_and]
      by_cases ha:zaa0 zadV x (i+1)=true
      · rw [if_pos ha] at ih ⊢; exact zasK (P:=True) (fun _=>ih) (zas (by omega) h0 hi hn' hd trivial)
      · rw [if_neg ha] at ih ⊢; exact zasK (P:=True) (fun _=>ih) (zar8 (by omega) h0 hi hn' hd trivial)
  · have e:x.data.toList.drop i.toNat=[]:=List.drop_of_length_le (by rw [Array.length_toList]; have:x.data.size=x.size:=rfl; omega)
    rw [if_pos (zabf hi),e]; exact zasK (P:=False) (i':=i) (n':=n) (r':=zanV n) (fun h=>h.elim) (zanG hi)
set_option maxRecDepth 100000 in
theorem zaAE {x:ByteArray}{q:Ex × Back}(h:BJN [s0 x,i0 0,i0 0] q):(XB.addLp zaag 0 (lpJN True x 0 0 q)).Sound :=
 zabg.addLp (fnOk zaag (by kernel_rfl)) (show (fn zaag).body=some (code zaag) by kernel_rfl) (by kernel_rfl)
  (Spl.ok (l:=[⟨Unit,fun _=>True,fun _=>[s0 x,i0 0,i0 0],fun _ => .nil,fun _=>q⟩]) rfl (show ([0,3,4]:List Nat).Nodup by decide) fun s' hs' i _=>by obtain rfl:=List.mem_singleton.1 hs'; exact h)
attribute [local irreducible] runF in
set_option maxRecDepth 100000 in
theorem jnFn {x:ByteArray}{q:Ex × Back}{os:Orc}{m:Int}(h:BJN [s0 x,i0 0,i0 0] q)(hg:gJN os x q m):F zaag [s0 x] (i0 m) :=
 zadS (X:=(XB.addLp zaag 0 (lpJN True x 0 0 q)).ask [zaag]) (d:=10) ((zaAE h).ask _) (f:=zaag) (fn:=fn zaag) (code:=code zaag) (fnOk zaag (by kernel_rfl)) (show (fn zaag).body=some (code zaag) by kernel_rfl) (by kernel_rfl) hg
attribute [local irreducible] runF in
set_option maxRecDepth 100000 in
theorem zasM {x:ByteArray}{os:Orc}(hg:gJNL os x):F zaag [s0 x] (i0 (-1)) :=
 zadS (X:=XB.ask [zaag]) (d:=10) (zabg.ask _) (f:=zaag) (fn:=fn zaag) (code:=code zaag) (fnOk zaag (by kernel_rfl)) (show (fn zaag).body=some (code zaag) by kernel_rfl) (by kernel_rfl) hg
attribute [local irreducible] runF runL in
set_option maxRecDepth 100000 in
theorem zaqX (x:ByteArray):F zaag [s0 x] (i0 (numN x)):=by
 unfold numN
 by_cases h1:x.size<1
 · rw [if_neg (fun c=>by omega)]
   exact zasM (show gJNL zazk x from by rw [zauW]; exact ⟨decide_eq_true (by omega),rfl,rfl,rfl, .refl _, .rfl⟩)
 · by_cases h6:x.size>6
   · rw [if_neg (fun c=>by omega)]
     exact zasM (show gJNM zazj x from by rw [zauV]; exact ⟨decide_eq_false (by omega),rfl,rfl,decide_eq_true (by omega), .refl _, .rfl⟩)
   · have h:=jnLp x (by omega) x.size 0 0 (Int.le_refl _) (by omega) (by omega) ⟨Int.le_refl _,by decide⟩
     have ed:x.data.toList.all zadV=zaa0 zadV x 0:=zavE x
     have en:numF (x.data.toList.drop (0:Int).toNat) 0=numB x.data.toList:=by rw [show (0:Int).toNat=0 from rfl,List.drop_zero]; rfl
     rw [ed]
     by_cases ha:zaa0 zadV x 0=true
     · rw [if_pos ha,en] at h
       rw [if_pos ⟨ha,by omega,by omega⟩]
       exact jnFn h (show gJNE zazl x _ from by rw [zauX]; exact ⟨decide_eq_false (by omega),rfl,rfl,decide_eq_false (by omega),(),⟨trivial, .refl _,rfl⟩, .refl _, .rfl⟩)
     · rw [if_neg ha] at h
       rw [if_neg (fun c=>ha c.1)]
       exact jnFn h (show gJNX zazi x from by rw [zauU]; exact ⟨decide_eq_false (by omega),rfl,rfl,decide_eq_false (by omega),(),⟨trivial, .refl _,rfl⟩, .refl _, .rfl⟩)
end
end Go.Proofs.YtpofhijgccocpaaGreatDoor
end
section
namespace Go.Proofs.YtpofhijgccocpaaGreatDoor
open Go.AS Go.TP
noncomputable section
theorem zaeV {all:List Tk}{s:RS}(h:XInv all s){k:Int}(hk:plc all s=k):∀ B:Tb,B=Cx.B (cxV XB 14 zaaR)->(decide ((0:Int)<=k/\k<((all.map encT).length:Int))&&(Nat.beq 3 3&&(zaak B shN 124 ((all.map encT).getD k.toNat (AV.lit (Value.tuple ⟨[]⟩)))&&(true||false))))=true:=by
 subst hk; exact zabJ h
theorem zaqZ {all:List Tk}{s:RS}(h:XInv all s){k:Int}(hk:plc all s=k)(c:Int):(intA (nthA 0 ((all.map encT).getD k.toNat (AV.lit (Value.tuple ⟨[]⟩)))) != c)=decide ((zaac s.ts).kind≠c):=by
 subst hk
 obtain ⟨t1,_,_⟩:=zal4 h (AV.lit (Value.tuple ⟨[]⟩))
 rw [show (all.map encT).getD (plc all s).toNat (AV.lit (Value.tuple ⟨[]⟩))=_ from t1]
 show ((zaac s.ts).kind != c)=_
 by_cases g:(zaac s.ts).kind=c
 · rw [g]; simp
 · rw [decide_eq_true g]; simp [g]
theorem zabX {all:List Tk}{s:RS}(h:XInv all s):Wks [AV.lit (Value.string (strA (nthA 2 ((all.map encT).getD (plc all s).toNat (AV.lit (Value.tuple ⟨[]⟩))))))] [s0 (zaac s.ts).text]:=by
 obtain ⟨t1,_,_⟩:=zal4 h (AV.lit (Value.tuple ⟨[]⟩))
 rw [show (all.map encT).getD (plc all s).toNat (AV.lit (Value.tuple ⟨[]⟩))=_ from t1]
 exact .refl _
theorem zaea {all:List Tk}{s:RS}(h:XInv all s)(k n:Int){x:AV}{ps:List AV}(hx:Wk x (.lst false 1 ps)):Wks [xArg, .agg [i0 k,i0 (intA (nthA 1 ((all.map encT).getD (plc all s).toNat (AV.lit (Value.tuple ⟨[]⟩))))),i0 n, .lit (.string (strA (nthA 2 ((all.map encT).getD (plc all s).toNat (AV.lit (Value.tuple ⟨[]⟩)))))),x]] [xArg,rgV k (zaac s.ts).at_ n (zaac s.ts).text ps]:=by
 obtain ⟨t1,_,_⟩:=zal4 h (AV.lit (Value.tuple ⟨[]⟩))
 rw [show (all.map encT).getD (plc all s).toNat (AV.lit (Value.tuple ⟨[]⟩))=_ from t1]
 exact .cons (.refl _) (.cons (.agg (.cons (.refl _) (.cons (.refl _) (.cons (.refl _) (.cons (.refl _) (.cons hx .nil)))))) .nil)
theorem zajY {all:List Tk}{z:RS}(h:XInv all z)(k a n:Int)(t:ByteArray)(ps:List Nat) :
  FOk Tryz.prog gl0 zabG (xArg::[rgV k a n t (ps.map fun j:Nat=>i0 (j:Int))]) (xQ 0 all z (plc all z) z.deep)
   ⟨i0 ((z.out.map xE).length:Int),xHp 1 (all.map encT) (plc all z) z.deep (z.out.map xE++[rgV k a n t (ps.map fun j:Nat=>i0 (j:Int))]) (badE z) (badP z),[1048577,1048578]⟩:=by
 have lm:(z.out.map xE).length=z.out.length:=List.length_map ..
 rw [lm]
 have hA2:FOk Tryz.prog gl0 zabG (xArg::[rgV k a n t (ps.map fun j:Nat=>i0 (j:Int))]) (xQ 0 all z (plc all z) z.deep)
   ⟨i0 (z.out.length:Int),xHp 1 (all.map encT) (plc all z) z.deep ((z.out++[(⟨k,a,n,t,ps⟩:RN)]).map xE) (badE z) (badP z),[1048577,1048578]⟩:=zajZ h ⟨k,a,n,t,ps⟩
 rw [List.map_append] at hA2
 exact hA2
theorem zagq {f:Nat} {all:List Tk} {σ:Hp} (z:RS) (k a n:Int) (t:ByteArray) (ps:List Nat)
  (h:FOk Tryz.prog gl0 f [xArg] σ ⟨i0 ((z.out.map xE).length:Int),xHp 1 (all.map encT) (plc all z) z.deep (z.out.map xE++[rgV k a n t (ps.map fun j:Nat=>i0 (j:Int))]) (badE z) (badP z),[1048577,1048578]⟩) :
  FOk Tryz.prog gl0 f [xArg] σ ⟨i0 ((addR ⟨k,a,n,t,ps⟩ z).1:Int),xS 1 all (addR ⟨k,a,n,t,ps⟩ z).2,[1048577,1048578]⟩:=by
 show FOk _ _ _ _ _ ⟨i0 (z.out.length:Int),xHp 1 _ (plc all z) z.deep ((z.out++[(⟨k,a,n,t,ps⟩:RN)]).map xE) (badE z) (badP z),_⟩
 have lm:(z.out.map xE).length=z.out.length:=List.length_map ..
 rw [List.map_append,<-lm]
 exact h
theorem zar (c:Int)(s:RS):(zabs c s).2.deep=s.deep/\(zabs c s).2.out=s.out:=by
 unfold zabs
 split
 · exact ⟨rfl,rfl⟩
 · exact ⟨(zall 15 s).2.1,(zall 15 s).2.2⟩
theorem zaou {c:Int}{s:RS}(hb:(zabs c s).1=true):isR c s=true/\(zabs c s).2=zaaB s:=by
 unfold zabs at hb ⊢
 cases hi:isR c s with
 | true=>exact ⟨rfl,rfl⟩
 | false=>rw [hi] at hb; exact nomatch hb
theorem zajd {all:List Tk}{s:RS}(h:XInv all s)(c:Int)(hc:c≠11):∃ b w,zabs c s=(b,w)/\w.deep=s.deep/\w.out=s.out/\(b=true->isR c s=true/\w=zaaB s) /\
  FOk Tryz.prog gl0 zabp [xArg,i0 c] (xQ 0 all s (plc all s) s.deep) ⟨b0 b,xHp 0 (all.map encT) (plc all w) s.deep (s.out.map xE) (badE w) (badP w),[1048578]⟩:=by
 obtain ⟨h1,h2⟩:=zar c s
 have g:FOk Tryz.prog gl0 zabp [xArg,i0 c] (xQ 0 all s (plc all s) s.deep) ⟨b0 (zabs c s).1,xHp 0 (all.map encT) (plc all (zabs c s).2) (zabs c s).2.deep ((zabs c s).2.out.map xE) (badE (zabs c s).2) (badP (zabs c s).2),[1048578]⟩:=zaoi h c hc
 rw [h1,h2] at g
 exact ⟨(zabs c s).1,(zabs c s).2,rfl,h1,h2,zaou,g⟩
theorem zajX {all:List Tk}{s:RS}(h:XInv all s)(hb:s.bad=none):FOk Tryz.prog gl0 zabB [xArg,i0 15] (xHp 0 (all.map encT) (plc all s) s.deep (s.out.map xE) 0 0)
  ⟨i0 0,xHp 0 (all.map encT) (plc all s) s.deep (s.out.map xE) (badE (zaaW 15 s)) (badP (zaaW 15 s)),[1048578]⟩:=by
 have hf:=zahi h 15
 rw [zaci,zaby hb] at hf
 exact hf
theorem x_no {f:Nat}{all:List Tk}{σ:Hp}{s:RS}{c:Nat}(e:Int)(h:FOk Tryz.prog gl0 f [xArg] σ ⟨i0 0,xHp c (all.map encT) (plc all s) s.deep (s.out.map xE) (badE (zaaW e s)) (badP (zaaW e s)),[1048577,1048578]⟩)(hc:c=0∨c=1) :
  FOk Tryz.prog gl0 f [xArg] σ ⟨i0 0,xS 1 all (zaaW e s),[1048577,1048578]⟩:=by
 rcases hc with rfl | rfl
 · refine xRen (t:=zaaW e s) (v:=0) (ws:=[1048577,1048578]) ?_ (by intro k hk; simpa using hk)
   rw [zaci]; exact h
 · rw [zaci]; exact h
theorem zaiZ (w:ByteArray):zaaH w=if w=wAll∨w=zabC∨w=zaam then 1 else if w=zaai∨w=zaaf∨w=wAnc∨w=zabZ∨w=zaaX∨w=zaa3 then 2 else if w=zaaY∨w=zacx∨w=zaa8 then 3 else 0:=rfl
theorem zado (w:ByteArray):zavQ w=if zaaH w=1 then .tup [i0 0,b0 false] else if zaaH w=2 then .tup [i0 1,b0 false] else if zaaH w=3 then .tup [i0 1,b0 true] else .tup [i0 (-1),b0 false]:=by
 rw [zalT,zaiZ]
 by_cases h1:w=wAll∨w=zabC∨w=zaam
 · rw [if_pos h1,if_pos h1,if_pos rfl]
 · rw [if_neg h1,if_neg h1]
   by_cases h2:w=zaai∨w=zaaf∨w=wAnc∨w=zabZ∨w=zaaX∨w=zaa3
   · rw [if_pos h2,if_pos h2,if_neg (by decide),if_pos rfl]
   · rw [if_neg h2,if_neg h2]
     by_cases h3:w=zaaY∨w=zacx∨w=zaa8
     · rw [if_pos h3,if_pos h3,if_neg (by decide),if_neg (by decide),if_pos rfl]
     · rw [if_neg h3,if_neg h3,if_neg (by decide),if_neg (by decide),if_neg (by decide)]
theorem zag2 (w:ByteArray):zaaH w=0∨zaaH w=1∨zaaH w=2∨zaaH w=3:=by
 rw [zaiZ]
 split
 · exact .inr (.inl rfl)
 · split
   · exact .inr (.inr (.inl rfl))
   · split
     · exact .inr (.inr (.inr rfl))
     · exact .inl rfl
abbrev spPu (x r:AV):Sp := .pure Unit (fun _=>True) (fun _=>[x]) (fun _=>r)
theorem zakz {f:Nat}{x r:AV}(h:F f [x] r):zagn Tryz.prog gl0 f (Sp.con [spPu x r]):=zaoa (s:=spPu x r) fun _ _=>h
theorem RI.deepI {all:List Tk}{t:RS}(h:XInv all (upR t)){d:Int}(hd:t.deep=d):inR .i64 (d-1)=true:=by subst hd; exact Go.Proofs.YtpofhijgccocpaaGreatDoor.deepI h
attribute [local irreducible] runF in
set_option maxRecDepth 100000 in
theorem zaoq {f:Nat}{all:List Tk}(hsz:∀ t∈all,t.text.size<=1000000)(ih:IH all f){s:RS}(h:XInv all s)(hb:s.bad=none)(hd:s.deep<=24)(hf:5*s.ts.length+1<=f+1):LvOk all (f+1) .atom s:=by
 unfold LvOk
 rw [zaby hb,RP]
 have fin:∀ {X:WX} (hX:X.Sound) (hp:X.px=X0) {os:Orc} {fc:List Nat} {r:Back},runF (XQn X zaab [38,39,49,51,117,119]) 14 zaab (fn zaab) (code zaab) os 0 fc [xArg] (xHp 0 (all.map encT) (plc all s) s.deep (s.out.map xE) 0 0) r ->
   FOk Tryz.prog gl0 zaab [xArg] (xHp 0 (all.map encT) (plc all s) s.deep (s.out.map xE) 0 0) r:=by
  intro X hX hp os fc r g
  have hP:X.px.P=Tryz.prog:=by rw [hp]; rfl
  have hg:X.px.gl=gl0:=by rw [hp]; rfl
  have:=zadS (X:=XQn X zaab [38,39,49,51,117,119]) (d:=14) ((hX.ask askX).askAt zaab _) (f:=zaab) (fn:=fn zaab) (code:=code zaab) (by show X.px.P.funcs[zaab]?=_; rw [hP]; exact fnOk zaab (by kernel_rfl)) (by kernel_rfl) (by kernel_rfl) g
  rw [<-hg,<-hP]; exact this
 have g0:RI 0 0 s s := .refl h.ok h.bad
 cases hi:isR 2 s with
 | true =>
  have hk:(zaac s.ts).kind≠11:=by rw [(zaaw hi).2]; decide
  simp only [if_true]
  by_cases h24:24<=s.deep
  · obtain ⟨e,hD⟩:=zaie h hb hk h24
    rw [e]
    simp only [Bool.false_eq_true,if_false]
    have q:zazX _ _ _ _ _ _ _:=(zaqh (all.map encT) (plc all s) s.deep (s.out.map xE) (badE (zaaW 16 s)) (badP (zaaW 16 s))).mpr
      ⟨(),⟨trivial, .refl _,rfl⟩,rfl,(),⟨trivial, .refl _,rfl⟩,rfl, .refl _, .rfl⟩
    exact x_no 16 (fin ((zabg.add (con1 (zafd h hb hi))).add (con1 (f:=zaaq) hD)) rfl q) (.inl rfl)
  · obtain ⟨u,e,gu,uI,ub,ud,ud24,ul,uo,hD⟩:=zal5 h hb hk h24
    rw [e]
    simp only [if_true]
    have ha:=x_lv ub (ih .expr u uI ub ud24 (by show _+5<=_; omega))
    have gq:=zadq f .expr u uI.ok uI.bad
    rw [ud,uo] at ha
    generalize RP f .expr u=q at ha gq ⊢
    have qI:XInv all q.2:=uI.of_RI ud24 gq
    obtain ⟨b,w,ew,wd,wo,_,hW⟩:=zajd qI 3 (by decide)
    have gw:=gq.want (c:=3) (by decide)
    rw [ew] at gw ⊢
    have zI:XInv all (upR w):=h.of_RI hd (RI.up (k:=0) (gu.trans ub gw))
    have z:zazW _ _ _ _ _ _ _ _ _ _ _ _ _ _ _ _:=(zaqg (all.map encT) (plc all s) s.deep (s.out.map xE) (plc all u) (plc all q.2) q.2.deep (q.2.out.map xE) (badE q.2) (badP q.2) q.1 (plc all w) (badE w) (badP w) b).mpr
      ⟨(),⟨trivial, .refl _,rfl⟩,rfl,(),⟨trivial, .refl _,rfl⟩,rfl,(),⟨trivial, .refl _,rfl⟩,(),⟨trivial, .refl _,rfl⟩,RI.deepI zI wd, .refl _, .rfl⟩
    have g:=fin ((((zabg.add (con1 (zafd h hb hi))).add (con1 (f:=zaaq) hD)).add (con1 (f:=zaan) ha)).add (con1 hW)) rfl z
    show FOk _ _ _ _ _ ⟨i0 (q.1:Int),xHp 1 _ (plc all w) (w.deep-1) (w.out.map xE) (badE w) (badP w),_⟩
    rw [wd,wo]; exact g
 | false =>
  simp only [Bool.false_eq_true,if_false]
  have hI2:=zafd h hb hi
  cases h1:isR 1 s with
  | false =>
   simp only [Bool.false_eq_true,if_false]
   have q:gAtX _ _ _ _ _ _ _:=(zavn (all.map encT) (plc all s) s.deep (s.out.map xE) (badE (zaaW 15 s)) (badP (zaaW 15 s))).mpr
    ⟨(),⟨trivial, .refl _,rfl⟩,rfl,(),⟨trivial, .refl _,rfl⟩,rfl,(),⟨trivial, .refl _,rfl⟩, .refl _, .rfl⟩
   exact x_no 15 (fin ((zabg.add (conC hI2 (con1 (zafd h hb h1)))).add (con1 (zajX h hb))) rfl q) (.inl rfl)
  | true =>
   simp only [if_true]
   have hI1:=zafd h hb h1
   have hIW:=conC hI2 (con1 hI1)
   have hk:(zaac s.ts).kind≠11:=by rw [(zaaw h1).2]; decide
   have gt1:=g0.take hk
   have gt:RI 0 0 s (zaaB s):=gt1.less (Nat.zero_le _)
   have TI:XInv all (zaaB s):=h.of_RI hd gt
   have pT:plc all (zaaB s)=plc all s+1:=zagp h hk
   have tl:(zaaB s).ts.length+1=s.ts.length:=zabk h.ok hk
   have hT:=(zaas s.ts)
   have hw:(zaac s.ts).text.size<=1000000:=by
    have hne:=zakM h.ok
    have:=h.suf
    cases hts:s.ts with
    | nil=>exact absurd hts hne
    | cons t r =>
     rw [hts] at this
     exact hsz t (this.subset (List.mem_cons_self ..))
   by_cases hk2:(zaac (zaas s.ts)).kind≠2
   · rw [if_pos hk2]
     have kk:(intA (nthA 0 ((all.map encT).getD (plc all s+1).toNat (AV.lit (Value.tuple ⟨[]⟩)))) != 2)=true:=(zaqZ TI pT 2).trans (decide_eq_true hk2)
     cases hp:zaar (zaac s.ts).text with
     | false =>
       simp only [Bool.false_eq_true,if_false]
       have hP:=zanp (zaac s.ts).text hw
       rw [hp] at hP
       have q:zazV _ _ _ _ _ _ _ _:=(zaqf (all.map encT) (plc all s) s.deep (s.out.map xE) (badE (zaaW 15 s)) (badP (zaaW 15 s)) (zaac s.ts).text).mpr
         ⟨(),⟨trivial, .refl _,rfl⟩,rfl,(),⟨trivial, .refl _,rfl⟩,rfl,zabJ h _ rfl,x_in h,zaeV TI pT _ rfl,kk,(),⟨trivial,zabX h,rfl⟩,rfl,(),⟨trivial, .refl _,rfl⟩, .refl _, .rfl⟩
       exact x_no 15 (fin (((zabg.add hIW).add (zakz hP)).add (con1 (zajX h hb))) rfl q) (.inl rfl)
     | true =>
       simp only [if_true]
       have hP:=zanp (zaac s.ts).text hw
       rw [hp] at hP
       have hA:=zajY TI 1 (zaac s.ts).at_ 0 (zaac s.ts).text []
       unfold xQ at hA
       rw [(bad0 (s:=zaaB s) hb).1,(bad0 (s:=zaaB s) hb).2,pT] at hA
       have q:zazU _ _ _ _ _ _ _:=(zaqe (all.map encT) (plc all s) s.deep (s.out.map xE) (zaac s.ts).at_ (zaac s.ts).text).mpr
         ⟨(),⟨trivial, .refl _,rfl⟩,rfl,(),⟨trivial, .refl _,rfl⟩,rfl,zabJ h _ rfl,x_in h,zaeV TI pT _ rfl,kk,(),⟨trivial,zabX h,rfl⟩,rfl,x_in h,(),⟨trivial,zaea h 1 0 .nilS,rfl⟩, .refl _, .rfl⟩
       refine zagq (zaaB s) 1 _ 0 _ [] ?_
       rw [(bad0 (s:=zaaB s) hb).1,(bad0 (s:=zaaB s) hb).2,pT]
       exact fin (((zabg.add hIW).add (zakz hP)).add (con1 hA)) rfl q
   · rw [if_neg hk2]
     have hk2:(zaac (zaas s.ts)).kind=2:=Decidable.not_not.1 hk2
     have kk:(intA (nthA 0 ((all.map encT).getD (plc all s+1).toNat (AV.lit (Value.tuple ⟨[]⟩)))) != 2)=false:=(zaqZ TI pT 2).trans (decide_eq_false fun c=>c hk2)
     have hAr:=zaoe (zaac s.ts).text
     rw [zado] at hAr
     by_cases hf0:zaaH (zaac s.ts).text=0
     · rw [if_pos hf0]
       rw [hf0,if_neg (by decide),if_neg (by decide),if_neg (by decide)] at hAr
       have q:zaz1 _ _ _ _ _ _ _ _:=(zaql (all.map encT) (plc all s) s.deep (s.out.map xE) (badE (zaaW 15 s)) (badP (zaaW 15 s)) (zaac s.ts).text).mpr
         ⟨(),⟨trivial, .refl _,rfl⟩,rfl,(),⟨trivial, .refl _,rfl⟩,rfl,zabJ h _ rfl,x_in h,zaeV TI pT _ rfl,kk,(),⟨trivial,zabX h,rfl⟩,rfl,(),⟨trivial, .refl _,rfl⟩, .refl _, .rfl⟩
       exact x_no 15 (fin (((zabg.add hIW).add (zakz hAr)).add (con1 (zajX h hb))) rfl q) (.inl rfl)
     · rw [if_neg hf0]
       have hkT:(zaac (zaaB s).ts).kind≠11:=by rw [show (zaac (zaaB s).ts).kind=2 from hk2]; decide
       have hAr2:∃ n b,0<=n/\F zaa9 [s0 (zaac s.ts).text] (.tup [i0 n,b0 b])/\(zaaH (zaac s.ts).text=1->n=0/\b=false)/\(zaaH (zaac s.ts).text=2->n=1/\b=false)/\(zaaH (zaac s.ts).text=3->n=1/\b=true):=by
         rcases zag2 (zaac s.ts).text with c | c | c | c
         · exact absurd c hf0
         all_goals rw [c] at hAr ⊢
         · exact ⟨0,false,by decide,hAr,fun _=>⟨rfl,rfl⟩,fun c=>absurd c (by decide),fun c=>absurd c (by decide)⟩
         · exact ⟨1,false,by decide,hAr,fun c=>absurd c (by decide),fun _=>⟨rfl,rfl⟩,fun c=>absurd c (by decide)⟩
         · exact ⟨1,true,by decide,hAr,fun c=>absurd c (by decide),fun c=>absurd c (by decide),fun _=>⟨rfl,rfl⟩⟩
       obtain ⟨n,bn,hn0,hArg,ha1,ha2,ha3⟩:=hAr2
       by_cases h24:24<=(zaaB s).deep
       · obtain ⟨e,hD⟩:=zaie TI hb hkT h24
         rw [e]
         simp only [Bool.false_eq_true,if_false]
         rw [pT] at hD
         have q:zazY _ _ _ _ _ _ _ _ _ _:=(zaqi (all.map encT) (plc all s) s.deep (s.out.map xE) (badE (zaaW 16 (zaaB s))) (badP (zaaW 16 (zaaB s))) (zaac s.ts).text n bn).mpr
           ⟨(),⟨trivial, .refl _,rfl⟩,rfl,(),⟨trivial, .refl _,rfl⟩,rfl,zabJ h _ rfl,x_in h,zaeV TI pT _ rfl,kk,(),⟨trivial,zabX h,rfl⟩,decide_eq_false (by omega),x_in h,(),⟨trivial, .refl _,rfl⟩,rfl, .refl _, .rfl⟩
         refine x_no (s:=zaaB s) (c:=0) 16 ?_ (.inl rfl)
         rw [pT]
         exact fin (((zabg.add hIW).add (zakz hArg)).add (con1 (f:=zaaq) hD)) rfl q
       · obtain ⟨u,e,gu,uI,ub,ud,ud24,ul,uo,hD⟩:=zal5 TI hb hkT h24
         rw [e]
         simp only [if_true]
         have gsu:RI 1 1 s u:=gt.trans hb gu
         rw [pT] at hD
         have hD:FOk Tryz.prog gl0 zaaq [xArg] (xHp 0 (all.map encT) (plc all s+1) s.deep (s.out.map xE) 0 0) ⟨b0 true,xHp 0 (all.map encT) (plc all u) (s.deep+1) (s.out.map xE) 0 0,[1048578]⟩:=hD
         have ud:u.deep=s.deep+1:=ud
         have uo:u.out=s.out:=uo
         have base:=((zabg.add hIW).add (zakz hArg)).add (con1 (f:=zaaq) hD)
         by_cases hf1:zaaH (zaac s.ts).text=1
         · rw [if_pos hf1,if_neg (by rw [hf1]; decide)]
           obtain ⟨rfl,rfl⟩:=ha1 hf1
           show FOk _ _ _ _ _ ⟨i0 ((addR ⟨10,(zaac s.ts).at_,0,(zaac s.ts).text,[]⟩ (upR (zabs 3 u).2)).1:Int),_,_⟩
           obtain ⟨b,w,ew,wd,wo,_,hW⟩:=zajd uI 3 (by decide)
           have gw:=gsu.want (c:=3) (by decide)
           simp only [ew] at gw ⊢
           have zI:XInv all (upR w):=h.of_RI hd (RI.up (k:=0) gw)
           have hA:=zajY zI 10 (zaac s.ts).at_ 0 (zaac s.ts).text []
           unfold xQ at hA hW
           rw [(bad0 ub).1,(bad0 ub).2] at hW
           have hA2:FOk Tryz.prog gl0 zabG (xArg::[rgV 10 (zaac s.ts).at_ 0 (zaac s.ts).text []]) (xHp 0 (all.map encT) (plc all w) (w.deep-1) (w.out.map xE) (badE w) (badP w)) ⟨i0 ((w.out.map xE).length:Int),xHp 1 (all.map encT) (plc all w) (w.deep-1) (w.out.map xE++[rgV 10 (zaac s.ts).at_ 0 (zaac s.ts).text []]) (badE w) (badP w),[1048577,1048578]⟩:=hA
           rw [wd,wo,ud,uo] at hA2
           rw [ud,uo] at hW
           have z:zaz0 _ _ _ _ _ _ _ _ _ _ _ _:=(zaqk (all.map encT) (plc all s) s.deep (s.out.map xE) (zaac s.ts).text (zaac s.ts).at_ (plc all u) (plc all w) (badE w) (badP w) b).mpr
             ⟨(),⟨trivial, .refl _,rfl⟩,rfl,(),⟨trivial, .refl _,rfl⟩,rfl,zabJ h _ rfl,x_in h,zaeV TI pT _ rfl,kk,(),⟨trivial,zabX h,rfl⟩,rfl,x_in h,(),⟨trivial, .refl _,rfl⟩,rfl,rfl,rfl,rfl,rfl,(),⟨trivial, .refl _,rfl⟩,RI.deepI zI (wd.trans ud),(),⟨trivial,zaea h 10 0 .nilS,rfl⟩, .refl _, .rfl⟩
           refine zagq (upR w) 10 _ 0 _ [] ?_
           show FOk _ _ _ _ _ ⟨i0 ((w.out.map xE).length:Int),xHp 1 (all.map encT) (plc all w) (w.deep-1) (w.out.map xE++[rgV 10 (zaac s.ts).at_ 0 (zaac s.ts).text []]) (badE w) (badP w),_⟩
           rw [wd,wo,ud,uo]
           exact fin ((base.add (con1 hW)).add (con1 hA2)) rfl z
         · rw [if_neg hf1]
           have hx:=x_lv ub (ih .expr u uI ub ud24 (by show _+5<=_; omega))
           have gq:=zadq f .expr u uI.ok uI.bad
           rw [ud,uo] at hx
           generalize RP f .expr u=q at hx gq ⊢
           have qI:XInv all q.2:=uI.of_RI ud24 gq
           have gsq:RI 1 1 s q.2:=gsu.trans ub gq
           by_cases hf3:zaaH (zaac s.ts).text=3
           · rw [if_pos hf3]
             obtain ⟨rfl,rfl⟩:=ha3 hf3
             obtain ⟨b4,w4,ew4,wd4,wo4,hb4,hW4⟩:=zajd qI 4 (by decide)
             have gw4:=gsq.want (c:=4) (by decide)
             have gv4:=gq.want (c:=4) (by decide)
             simp only [ew4] at gw4 gv4 ⊢
             have w4I:XInv all w4:=uI.of_RI ud24 gv4
             cases b4 with
             | false =>
               simp only [Bool.false_eq_true,if_false]
               show FOk _ _ _ _ _ ⟨i0 ((addR ⟨10,(zaac s.ts).at_,0,(zaac s.ts).text,[q.1]⟩ (upR (zabs 3 w4).2)).1:Int),_,_⟩
               obtain ⟨b,w,ew,wd,wo,_,hW⟩:=zajd w4I 3 (by decide)
               have gw:=gw4.want (c:=3) (by decide)
               simp only [ew] at gw ⊢
               have zI:XInv all (upR w):=h.of_RI hd (RI.up (k:=0) gw)
               have hA:=zajY zI 10 (zaac s.ts).at_ 0 (zaac s.ts).text [q.1]
               unfold xQ at hA hW hW4
               have hA2:FOk Tryz.prog gl0 zabG (xArg::[rgV 10 (zaac s.ts).at_ 0 (zaac s.ts).text [i0 (q.1:Int)]]) (xHp 0 (all.map encT) (plc all w) (w.deep-1) (w.out.map xE) (badE w) (badP w)) ⟨i0 ((w.out.map xE).length:Int),xHp 1 (all.map encT) (plc all w) (w.deep-1) (w.out.map xE++[rgV 10 (zaac s.ts).at_ 0 (zaac s.ts).text [i0 (q.1:Int)]]) (badE w) (badP w),[1048577,1048578]⟩:=hA
               rw [wd,wo,wd4,wo4] at hA2
               rw [wd4,wo4] at hW
               have z:zavp _ _ _ _ _ _ _ _ _ _ _ _ _ _ _ _ _ _ _ _ _:=(zam2 (all.map encT) (plc all s) s.deep (s.out.map xE) (zaac s.ts).text (zaac s.ts).at_ (plc all u) (plc all q.2) q.2.deep (q.2.out.map xE) (badE q.2) (badP q.2) q.1 (plc all w) (badE w) (badP w) (plc all w4) (badE w4) (badP w4) b).mpr
                 ⟨(),⟨trivial, .refl _,rfl⟩,rfl,(),⟨trivial, .refl _,rfl⟩,rfl,zabJ h _ rfl,x_in h,zaeV TI pT _ rfl,kk,(),⟨trivial,zabX h,rfl⟩,rfl,x_in h,(),⟨trivial, .refl _,rfl⟩,rfl,rfl,(),⟨trivial, .refl _,rfl⟩,rfl,rfl,(),⟨trivial, .refl _,rfl⟩,rfl,(),⟨trivial, .refl _,rfl⟩,RI.deepI zI (wd.trans wd4),(),⟨trivial,zaea h 10 0 .lst,rfl⟩, .refl _, .rfl⟩
               refine zagq (upR w) 10 _ 0 _ [q.1] ?_
               show FOk _ _ _ _ _ ⟨i0 ((w.out.map xE).length:Int),xHp 1 (all.map encT) (plc all w) (w.deep-1) (w.out.map xE++[rgV 10 (zaac s.ts).at_ 0 (zaac s.ts).text [i0 (q.1:Int)]]) (badE w) (badP w),_⟩
               rw [wd,wo,wd4,wo4]
               exact fin (((base.add (con1 (f:=zaan) hx)).add (conC hW4 (con1 hW))).add (con1 hA2)) rfl z
             | true =>
               simp only [if_true]
               obtain ⟨hq4,rw4⟩:=hb4 rfl
               have w4b:w4.bad=none:=by rw [rw4]; exact (zaaw hq4).1
               unfold xQ at hW4
               rw [(bad0 w4b).1,(bad0 w4b).2] at hW4
               have hI4:=fun b=>zafd w4I w4b (c:=1) (b:=b)
               have hN:=zaqX (zaac w4.ts).text
               have hF4:=zajX w4I w4b
               rw [wd4,wo4] at hF4
               rw [wd4,wo4] at hI4
               cases h41:isR 1 w4 with
               | false =>
                 simp only [Bool.false_eq_true,if_false]
                 have z:zavr _ _ _ _ _ _ _ _ _ _ _ _ _ _ _ _ _ _ _ _ _ _:=(zam4 (all.map encT) (plc all s) s.deep (s.out.map xE) (zaac s.ts).text (zaac w4.ts).text (zaac s.ts).at_ (numN (zaac w4.ts).text) (plc all u) (plc all q.2) q.2.deep (q.2.out.map xE) (badE q.2) (badP q.2) q.1 0 0 0 (plc all w4) (badE (zaaW 15 w4)) (badP (zaaW 15 w4))).mpr
                   ⟨(),⟨trivial, .refl _,rfl⟩,rfl,(),⟨trivial, .refl _,rfl⟩,rfl,zabJ h _ rfl,x_in h,zaeV TI pT _ rfl,kk,(),⟨trivial,zabX h,rfl⟩,rfl,x_in h,(),⟨trivial, .refl _,rfl⟩,rfl,rfl,(),⟨trivial, .refl _,rfl⟩,rfl,rfl,(),⟨trivial, .refl _,rfl⟩,rfl,zabJ w4I _ rfl,(),⟨trivial,zabX w4I,rfl⟩,(),⟨trivial, .refl _,rfl⟩,rfl,rfl,rfl,rfl,(),⟨trivial, .refl _,rfl⟩, .refl _, .rfl⟩
                 have g:=fin (((((((zabg.add (conC hI2 (conC hI1 (con1 (hI4 false h41))))).add (zakz hArg)).add (con1 (f:=zaaq) hD)).add (con1 (f:=zaan) hx)).add (con1 hW4)).add (zakz hN)).add (con1 hF4)) rfl z
                 refine x_no (s:=w4) (c:=1) 15 ?_ (.inr rfl)
                 rw [wd4,wo4]; exact g
               | true =>
                 simp only [if_true]
                 have k4:(zaac w4.ts).kind=1:=(zaaw h41).2
                 have hk4:(zaac w4.ts).kind≠11:=by rw [k4]; decide
                 rw [zajo,if_pos k4]
                 by_cases hm:0<=numN (zaac w4.ts).text
                 · rw [if_pos hm]
                   have gt4:=(gw4.take hk4).less (Nat.le_succ 1)
                   have gu4:=(gv4.take hk4).less (Nat.zero_le _)
                   have t4I:XInv all (zaaB w4):=uI.of_RI ud24 gu4
                   have p4:plc all (zaaB w4)=plc all w4+1:=zagp w4I hk4
                   show FOk _ _ _ _ _ ⟨i0 ((addR ⟨10,(zaac s.ts).at_,numN (zaac w4.ts).text,(zaac s.ts).text,[q.1]⟩ (upR (zabs 3 (zaaB w4)).2)).1:Int),_,_⟩
                   obtain ⟨b,w,ew,wd,wo,_,hW⟩:=zajd t4I 3 (by decide)
                   have gw:=gt4.want (c:=3) (by decide)
                   simp only [ew] at gw ⊢
                   have zI:XInv all (upR w):=h.of_RI hd (RI.up (k:=0) gw)
                   have hA:=zajY zI 10 (zaac s.ts).at_ (numN (zaac w4.ts).text) (zaac s.ts).text [q.1]
                   unfold xQ at hA hW
                   rw [(bad0 (s:=zaaB w4) w4b).1,(bad0 (s:=zaaB w4) w4b).2,p4] at hW
                   have wd:w.deep=w4.deep:=wd
                   have wo:w.out=w4.out:=wo
                   have hW:FOk Tryz.prog gl0 zabp [xArg,i0 3] (xHp 0 (all.map encT) (plc all w4+1) w4.deep (w4.out.map xE) 0 0) ⟨b0 b,xHp 0 (all.map encT) (plc all w) w4.deep (w4.out.map xE) (badE w) (badP w),[1048578]⟩:=hW
                   have hA2:FOk Tryz.prog gl0 zabG (xArg::[rgV 10 (zaac s.ts).at_ (numN (zaac w4.ts).text) (zaac s.ts).text [i0 (q.1:Int)]]) (xHp 0 (all.map encT) (plc all w) (w.deep-1) (w.out.map xE) (badE w) (badP w)) ⟨i0 ((w.out.map xE).length:Int),xHp 1 (all.map encT) (plc all w) (w.deep-1) (w.out.map xE++[rgV 10 (zaac s.ts).at_ (numN (zaac w4.ts).text) (zaac s.ts).text [i0 (q.1:Int)]]) (badE w) (badP w),[1048577,1048578]⟩:=hA
                   rw [wd,wo,wd4,wo4] at hA2
                   rw [wd4,wo4] at hW
                   have z:zavo _ _ _ _ _ _ _ _ _ _ _ _ _ _ _ _ _ _ _ _ _:=(zam1 (all.map encT) (plc all s) s.deep (s.out.map xE) (zaac s.ts).text (zaac w4.ts).text (zaac s.ts).at_ (numN (zaac w4.ts).text) (plc all u) (plc all q.2) q.2.deep (q.2.out.map xE) (badE q.2) (badP q.2) q.1 (plc all w) (badE w) (badP w) (plc all w4) b).mpr
                     ⟨(),⟨trivial, .refl _,rfl⟩,rfl,(),⟨trivial, .refl _,rfl⟩,rfl,zabJ h _ rfl,x_in h,zaeV TI pT _ rfl,kk,(),⟨trivial,zabX h,rfl⟩,rfl,x_in h,(),⟨trivial, .refl _,rfl⟩,rfl,rfl,(),⟨trivial, .refl _,rfl⟩,rfl,rfl,(),⟨trivial, .refl _,rfl⟩,rfl,zabJ w4I _ rfl,(),⟨trivial,zabX w4I,rfl⟩,(),⟨trivial, .refl _,rfl⟩,rfl,rfl,rfl,decide_eq_false (by omega),x_in w4I,(),⟨trivial, .refl _,rfl⟩,RI.deepI zI (wd.trans wd4),(),⟨trivial,zaea h 10 _ .lst,rfl⟩, .refl _, .rfl⟩
                   refine zagq (upR w) 10 _ _ _ [q.1] ?_
                   show FOk _ _ _ _ _ ⟨i0 ((w.out.map xE).length:Int),xHp 1 (all.map encT) (plc all w) (w.deep-1) (w.out.map xE++[rgV 10 (zaac s.ts).at_ (numN (zaac w4.ts).text) (zaac s.ts).text [i0 (q.1:Int)]]) (badE w) (badP w),_⟩
                   rw [wd,wo,wd4,wo4]
                   exact fin (((((((zabg.add (conC hI2 (conC hI1 (con1 (hI4 true h41))))).add (zakz hArg)).add (con1 (f:=zaaq) hD)).add (con1 (f:=zaan) hx)).add (conC hW4 (con1 hW))).add (zakz hN)).add (con1 hA2)) rfl z
                 · rw [if_neg hm]
                   have z:zavq _ _ _ _ _ _ _ _ _ _ _ _ _ _ _ _ _ _ _ _ _ _:=(zam3 (all.map encT) (plc all s) s.deep (s.out.map xE) (zaac s.ts).text (zaac w4.ts).text (zaac s.ts).at_ (numN (zaac w4.ts).text) (plc all u) (plc all q.2) q.2.deep (q.2.out.map xE) (badE q.2) (badP q.2) q.1 0 0 0 (plc all w4) (badE (zaaW 15 w4)) (badP (zaaW 15 w4))).mpr
                     ⟨(),⟨trivial, .refl _,rfl⟩,rfl,(),⟨trivial, .refl _,rfl⟩,rfl,zabJ h _ rfl,x_in h,zaeV TI pT _ rfl,kk,(),⟨trivial,zabX h,rfl⟩,rfl,x_in h,(),⟨trivial, .refl _,rfl⟩,rfl,rfl,(),⟨trivial, .refl _,rfl⟩,rfl,rfl,(),⟨trivial, .refl _,rfl⟩,rfl,zabJ w4I _ rfl,(),⟨trivial,zabX w4I,rfl⟩,(),⟨trivial, .refl _,rfl⟩,rfl,rfl,rfl,decide_eq_true (by omega),(),⟨trivial, .refl _,rfl⟩, .refl _, .rfl⟩
                   have g:=fin (((((((zabg.add (conC hI2 (conC hI1 (con1 (hI4 true h41))))).add (zakz hArg)).add (con1 (f:=zaaq) hD)).add (con1 (f:=zaan) hx)).add (con1 hW4)).add (zakz hN)).add (con1 hF4)) rfl z
                   refine x_no (s:=w4) (c:=1) 15 ?_ (.inr rfl)
                   rw [wd4,wo4]; exact g
           · rw [if_neg hf3]
             have hf2:zaaH (zaac s.ts).text=2:=by rcases zag2 (zaac s.ts).text with c | c | c | c <;> first | exact absurd c hf0 | exact absurd c hf1 | exact c | exact absurd c hf3
             obtain ⟨rfl,rfl⟩:=ha2 hf2
             show FOk _ _ _ _ _ ⟨i0 ((addR ⟨10,(zaac s.ts).at_,0,(zaac s.ts).text,[q.1]⟩ (upR (zabs 3 q.2).2)).1:Int),_,_⟩
             obtain ⟨b,w,ew,wd,wo,_,hW⟩:=zajd qI 3 (by decide)
             have gw:=gsq.want (c:=3) (by decide)
             simp only [ew] at gw ⊢
             have zI:XInv all (upR w):=h.of_RI hd (RI.up (k:=0) gw)
             have hA:=zajY zI 10 (zaac s.ts).at_ 0 (zaac s.ts).text [q.1]
             unfold xQ at hA hW
             have hA2:FOk Tryz.prog gl0 zabG (xArg::[rgV 10 (zaac s.ts).at_ 0 (zaac s.ts).text [i0 (q.1:Int)]]) (xHp 0 (all.map encT) (plc all w) (w.deep-1) (w.out.map xE) (badE w) (badP w)) ⟨i0 ((w.out.map xE).length:Int),xHp 1 (all.map encT) (plc all w) (w.deep-1) (w.out.map xE++[rgV 10 (zaac s.ts).at_ 0 (zaac s.ts).text [i0 (q.1:Int)]]) (badE w) (badP w),[1048577,1048578]⟩:=hA
             rw [wd,wo] at hA2
             have z:zazZ _ _ _ _ _ _ _ _ _ _ _ _ _ _ _ _ _ _:=(zaqj (all.map encT) (plc all s) s.deep (s.out.map xE) (zaac s.ts).text (zaac s.ts).at_ (plc all u) (plc all q.2) q.2.deep (q.2.out.map xE) (badE q.2) (badP q.2) q.1 (plc all w) (badE w) (badP w) b).mpr
               ⟨(),⟨trivial, .refl _,rfl⟩,rfl,(),⟨trivial, .refl _,rfl⟩,rfl,zabJ h _ rfl,x_in h,zaeV TI pT _ rfl,kk,(),⟨trivial,zabX h,rfl⟩,rfl,x_in h,(),⟨trivial, .refl _,rfl⟩,rfl,rfl,(),⟨trivial, .refl _,rfl⟩,rfl,rfl,rfl,(),⟨trivial, .refl _,rfl⟩,RI.deepI zI wd,(),⟨trivial,zaea h 10 0 .lst,rfl⟩, .refl _, .rfl⟩
             refine zagq (upR w) 10 _ 0 _ [q.1] ?_
             show FOk _ _ _ _ _ ⟨i0 ((w.out.map xE).length:Int),xHp 1 (all.map encT) (plc all w) (w.deep-1) (w.out.map xE++[rgV 10 (zaac s.ts).at_ 0 (zaac s.ts).text [i0 (q.1:Int)]]) (badE w) (badP w),_⟩
             rw [wd,wo]
             exact fin (((base.add (con1 (f:=zaan) hx)).add (con1 hW)).add (con1 hA2)) rfl z
end
end Go.Proofs.YtpofhijgccocpaaGreatDoor
end
section
namespace Go.Proofs.YtpofhijgccocpaaGreatDoor
open Go.AS Go.TP
noncomputable section
theorem zazE {d:Int}(h:0<=d/\d<=2000000):inR IntKind.i64 (48+d)=true:=zaao (by omega) (by omega)
theorem zawL {d:Int}(h:0<=d/\d<=2000000):inR IntKind.i64 d=true:=zaao (by omega) (by omega)
theorem zaq7 {d:Int}(h0:0<=d)(h1:d<10):UInt8.ofNat (Int.toNat (IntKind.wrap IntKind.u8 (48+d)))=UInt8.ofNat (48+d.toNat):=by
 obtain ⟨n,rfl⟩:=Int.eq_ofNat_of_zero_le h0
 have h:n<10:=by omega
 match n,h with
 | 0,_=>rfl
 | 1,_=>rfl
 | 2,_=>rfl
 | 3,_=>rfl
 | 4,_=>rfl
 | 5,_=>rfl
 | 6,_=>rfl
 | 7,_=>rfl
 | 8,_=>rfl
 | 9,_=>rfl
theorem zasO {n:Nat}(h:n<10):zadR (n:Int)=⟨⟨[UInt8.ofNat (48+n)]⟩⟩:=by
 unfold zadR; rw [zaf3 (by omega),Int.toNat_natCast,Lib.decDigits,dif_pos h]
theorem zasP {n:Nat}(h:¬n<10):zadR (n:Int)=zadR ((n / 10:Nat):Int)++⟨⟨[UInt8.ofNat (48+n % 10)]⟩⟩:=by
 unfold zadR; rw [zaf3 (by omega),zaf3 (by omega),Int.toNat_natCast,Int.toNat_natCast,Lib.decDigits,dif_neg h]
 exact ByteArray.ext (by rw [ByteArray.data_append]; simp)
theorem zanW {n:Nat}(h:n<=999999):(zadR (n:Int)).size<=6:=by
 unfold zadR; rw [zaf3 (by omega),Int.toNat_natCast]
 have:=zan9 5 n (by omega)
 exact this
attribute [local irreducible] runF in
set_option maxRecDepth 100000 in
theorem zaqr:∀ (n:Nat),n<=999999->F zan7 [i0 (n:Int)] (s0 (zadR (n:Int))):=by
 intro n
 induction n using Nat.strongRecOn with
 | ind n ih =>
  intro hn
  by_cases h:n<10
  · refine F_ok zabg rfl (by kernel_rfl) (by kernel_rfl) (by kernel_rfl) (show gYD1 (Orc.t Orc.z) n (zadR (n:Int)) from ?_)
    rw [zatl]
    refine ⟨decide_eq_true (by omega),zazE (by omega),rfl,rfl, .of_eq ?_, .rfl⟩
    rw [zaq7 (by omega) (by omega),zasO h]; rfl
  · have h1:=ih (n / 10) (by omega) (by omega)
    have hs:=zanW (n:=n / 10) (by omega)
    have e1:Int.tdiv (n:Int) 10=((n / 10:Nat):Int):=by rw [Int.tdiv_eq_ediv_of_nonneg (by omega)]; omega
    have e2:Int.tmod (n:Int) 10=((n % 10:Nat):Int):=by rw [Int.tmod_eq_emod_of_nonneg (by omega)]; omega
    refine F_ok (zabg.add (zahk h1)) rfl (by kernel_rfl) (by kernel_rfl) (by kernel_rfl) (show gYD2 (Orc.f Orc.z) n ((n / 10:Nat):Int) (zadR ((n / 10:Nat):Int)) (zadR (n:Int)) from ?_)
    rw [zatk,e1,e2]
    refine ⟨decide_eq_false (by omega),by rw [zawL (by omega)]; rfl,(),⟨trivial, .refl _,rfl⟩,rfl,zazE (by omega),rfl,rfl,decide_eq_true ?_, .of_eq ?_, .rfl⟩
    · show _+1<=_; omega
    · rw [zaq7 (by omega) (by omega),zasP h]; rfl
theorem zawQ (k a m:Int)(t:ByteArray)(vs:List AV):gYL ogYL k a m t vs ((levelK k:Int)+1):=by
 rw [zawP]
 have e:∀ (c:Nat),levelK k=c->Wk (AV.lit (.int .i64 ((c:Int)+1))) (AV.lit (.int .i64 ((levelK k:Int)+1)))/\SameH (hpL []) (hpL []):=fun c h=>by rw [h]; exact ⟨.refl _, .rfl⟩
 refine ⟨fun h=>⟨rfl,e 0 (by rw [eqT h]; rfl)⟩,fun h1=>⟨fun h=>e 0 (by rw [eqT h]; rfl),fun h2=>⟨fun h=>e 1 (by rw [eqT h]; rfl),fun h3=>⟨fun h=>e 2 (by rw [eqT h]; rfl),fun h4=>⟨fun h=>⟨rfl,e 3 (by rw [eqT h]; rfl)⟩,fun h5=>⟨fun h=>⟨rfl,e 3 (by rw [eqT h]; rfl)⟩,fun h6=>⟨fun h=>⟨rfl,e 3 (by rw [eqT h]; rfl)⟩,fun h7=>⟨fun h=>e 3 (by rw [eqT h]; rfl),fun h8=>e 4 ?_⟩⟩⟩⟩⟩⟩⟩⟩
 have h1:=eqF h1
 have h2:=eqF h2
 have h3:=eqF h3
 have h4:=eqF h4
 have h5:=eqF h5
 have h6:=eqF h6
 have h7:=eqF h7
 have h8:=eqF h8
 unfold levelK
 rw [if_neg (by omega),if_neg h3,if_neg h4,if_neg (by omega)]
attribute [local irreducible] runF in
set_option maxRecDepth 100000 in
theorem zaqW (k a m:Int)(t:ByteArray)(vs:List AV):F zav8 [rgV k a m t vs] (i0 ((levelK k:Int)+1)):=F_ok zabg rfl (by kernel_rfl) (by kernel_rfl) (by kernel_rfl) (zawQ k a m t vs)
abbrev YpOk (l:List RN)(p:Nat)(tg:Int)(r:ByteArray):Prop:=FOk Tryz.prog gl0 fYPr [tS (l.map xE).length,i0 (p:Int),i0 tg] (rowH (l.map xE)) ⟨s0 r,rowH (l.map xE),[]⟩
attribute [local irreducible] runF in
set_option maxRecDepth 100000 in
theorem ypFn {X:WX}(hX:X.Sound)(hp:X.px=X0){os:Orc}{l:List RN}{p:Nat}{tg:Int}{r:ByteArray}(g:gYP X os (l.map xE) p tg r):YpOk l p tg r:=by
 have hP:X.px.P=Tryz.prog:=by rw [hp]; rfl
 have hg:X.px.gl=gl0:=by rw [hp]; rfl
 have:=zadS (X:=X) (d:=12) hX (f:=fYPr) (fn:=fn fYPr) (code:=code fYPr) (by show X.px.P.funcs[fYPr]?=_; rw [hP]; exact fnOk fYPr (by kernel_rfl)) (show (fn fYPr).body=some (code fYPr) by kernel_rfl) (by kernel_rfl) g
 show FOk Tryz.prog gl0 fYPr _ _ _
 rw [<-hg,<-hP]; exact this
theorem zafc {ns:List AV}{ks:List ((Int × Int) × ByteArray)}(h:∀ q∈ks,FOk Tryz.prog gl0 fYPr [tS ns.length,i0 q.1.1,i0 q.1.2] (rowH ns) ⟨s0 q.2,rowH ns,[]⟩):(XYP ns ks).Sound :=
 (((zabg.add (zabO (s:=spYL) fun v _=>zaqW v.k v.a v.m v.t v.ks)).add (Sp.one (s:=spYP ns ks) fun q hq=>h q hq)).ask _).askAt _ _
theorem zaqB {ns:List AV}{ks:List ((Int × Int) × ByteArray)}{t d:ByteArray}{ar m:Int}{b:Bool}(h:∀ q∈ks,FOk Tryz.prog gl0 fYPr [tS ns.length,i0 q.1.1,i0 q.1.2] (rowH ns) ⟨s0 q.2,rowH ns,[]⟩)(ha:zavQ t = .tup [i0 ar,b0 b])(hd:F zan7 [i0 m] (s0 d)):(XYC ns ks t ar m b d).Sound :=
 ((zafc h).add (zahk (by have:=zaoe t; rw [ha] at this; exact this))).add (zahk hd)
theorem zads (n:Nd)(lv:Nat){tg:Int}(h:tg=(lv:Int)+1):zaaC n lv=YB n.kind tg (zabt n):=by
 subst h
 rw [zaed,YB]
 by_cases h:levelK n.kind<lv
 · rw [if_pos h,if_pos (by omega)]; rfl
 · rw [if_neg h,if_neg (by omega)]
theorem kk0 {l:List Nat}(h:l.length=0):l=[]:=List.eq_nil_of_length_eq_zero h
theorem kk1 {l:List Nat}(h:l.length=1):∃ b,l=[b]:=List.length_eq_one_iff.1 h
theorem kk2:∀ {l:List Nat},l.length=2->∃ b c,l=[b,c]
 | [b,c],_=>⟨b,c,rfl⟩
theorem szLd {a b:ByteArray}{N:Nat}(h:(a++b).size<=N):a.size<=N:=by rw [ByteArray.size_append] at h; omega
theorem szM {a b c:ByteArray}{N:Nat}(h:(a++b++c).size<=N):b.size<=N:=by simp only [ByteArray.size_append] at h; omega
attribute [local irreducible] runF in
set_option maxRecDepth 100000 in
theorem zaz8 {l:List RN}(n:Nd)(h:zaav n=true):∀ (p lv:Nat) (tg:Int),tg=(lv:Int)+1->Rep l p n->(zabt n).size<=2000000->YpOk l p tg (zaaC n lv):=by
 refine zafU (P:=fun n=>∀ (p lv:Nat) (tg:Int),tg=(lv:Int)+1->Rep l p n->(zabt n).size<=2000000->YpOk l p tg (zaaC n lv)) ?_ ?_ ?_ ?_ ?_ n h
 · intro a t _ p lv tg htg hR hs
   obtain ⟨e1,e2,e3⟩:=zaeA hR
   obtain ⟨_,_,_,_,_,hkl,_,_⟩:=hR.inv
   rw [kk0 hkl] at e1
   rw [zads _ _ htg,zame]; rw [zame] at hs
   exact ypFn (zafc (ks:=[]) fun _ hq=>nomatch hq) rfl (zatj ⟨e1,e2,e3⟩ hs tg)
 · intro k a x y hk _ _ hx hy p lv tg htg hR hs
   obtain ⟨e1,e2,e3⟩:=zaeA hR
   obtain ⟨_,_,_,_,_,hkl,_,hch⟩:=hR.inv
   obtain ⟨b,c,hbc⟩:=kk2 hkl
   rw [hbc] at e1
   have hb:=hch 0 b x (by rw [hbc]; rfl) rfl
   have hc:=hch 1 c y (by rw [hbc]; rfl) rfl
   have two:∀ (s:Int) (i j:Nat),zafg (.mk k a 0 ByteArray.empty [x,y])=atS x i++sg s::atS y j->s≠1->zabt (.mk k a 0 ByteArray.empty [x,y])=zaaC x i++zaoH s++zaaC y j/\∀ q∈[(((b:Int),(i:Int)+1),zaaC x i),(((c:Int),(j:Int)+1),zaaC y j)],FOk Tryz.prog gl0 fYPr [tS (l.map xE).length,i0 q.1.1,i0 q.1.2] (rowH (l.map xE)) ⟨s0 q.2,rowH (l.map xE),[]⟩:=fun s i j ht h1=>by
     have e:=zahl ht h1
     rw [e,ByteArray.size_append,ByteArray.size_append] at hs
     have h1:=zabF x i
     have h2:=zabF y j
     refine ⟨e,fun q hq => ?_⟩
     rcases List.mem_cons.1 hq with rfl | hq
     · exact hx b i _ rfl hb (by omega)
     · rw [List.mem_singleton] at hq; subst hq; exact hy c j _ rfl hc (by omega)
   rw [zads _ _ htg]
   rcases hk with rfl | rfl | rfl | rfl | rfl
   · obtain ⟨e,hq⟩:=two 7 0 1 rfl (by decide)
     rw [e] at hs ⊢; exact ypFn (zafc hq) rfl (zath ⟨e1,e2,e3⟩ hs tg)
   · obtain ⟨e,hq⟩:=two 8 0 1 rfl (by decide)
     rw [e] at hs ⊢; exact ypFn (zafc hq) rfl (zatf ⟨e1,e2,e3⟩ hs tg)
   · obtain ⟨e,hq⟩:=two 9 1 2 rfl (by decide)
     rw [e] at hs ⊢; exact ypFn (zafc hq) rfl (zatd ⟨e1,e2,e3⟩ hs tg)
   · obtain ⟨e,hq⟩:=two 5 4 4 rfl (by decide)
     rw [e] at hs ⊢; exact ypFn (zafc hq) rfl (zas6 ⟨e1,e2,e3⟩ hs tg)
   · obtain ⟨e,hq⟩:=two 6 4 4 rfl (by decide)
     rw [e] at hs ⊢; exact ypFn (zafc hq) rfl (zas4 ⟨e1,e2,e3⟩ hs tg)
 · intro k a x hk _ hx p lv tg htg hR hs
   obtain ⟨e1,e2,e3⟩:=zaeA hR
   obtain ⟨_,_,_,_,_,hkl,_,hch⟩:=hR.inv
   obtain ⟨b,hbc⟩:=kk1 hkl
   rw [hbc] at e1
   have hb:=hch 0 b x (by rw [hbc]; rfl) rfl
   have one:∀ (i:Nat),(zaaC x i).size<=2000000->∀ q∈[(((b:Int),(i:Int)+1),zaaC x i)],FOk Tryz.prog gl0 fYPr [tS (l.map xE).length,i0 q.1.1,i0 q.1.2] (rowH (l.map xE)) ⟨s0 q.2,rowH (l.map xE),[]⟩:=fun i h q hq=>by
     have:=zabF x i
     rw [List.mem_singleton] at hq; subst hq; exact hx b i _ rfl hb (by omega)
   rw [zads _ _ htg]
   rcases hk with rfl | rfl | rfl
   · rw [zaoB] at hs ⊢
     exact ypFn (zafc (one 2 (by rw [ByteArray.size_append] at hs; omega))) rfl (zatb ⟨e1,e2,e3⟩ hs tg)
   · rw [zaoA] at hs ⊢
     exact ypFn (zafc (one 4 (by rw [ByteArray.size_append] at hs; omega))) rfl (zat ⟨e1,e2,e3⟩ hs tg)
   · rw [zaoz] at hs ⊢
     exact ypFn (zafc (one 4 (by rw [ByteArray.size_append] at hs; omega))) rfl (zas8 ⟨e1,e2,e3⟩ hs tg)
 · intro a t ht p lv tg htg hR hs
   obtain ⟨e1,e2,e3⟩:=zaeA hR
   obtain ⟨_,_,_,_,_,hkl,_,_⟩:=hR.inv
   rw [kk0 hkl] at e1
   have e:zabt (.mk 10 a 0 t [])=t++⟨#[40]⟩++⟨#[41]⟩:=by rw [zaka ht,ByteArray.append_empty]; rfl
   rw [zads _ _ htg,e]; rw [e] at hs
   exact ypFn (zaqB (t:=t) (ks:=[]) (ar:=0) (m:=0) (b:=false) (fun _ hq=>nomatch hq) (by rw [zado,if_pos ht]) (zaqr 0 (by decide))) rfl (zas2 ⟨e1,e2,e3⟩ hs tg)
 · intro a n t x hn _ hx p lv tg htg hR hs
   obtain ⟨e1,e2,e3⟩:=zaeA hR
   obtain ⟨_,_,_,_,_,hkl,_,hch⟩:=hR.inv
   obtain ⟨b,hbc⟩:=kk1 hkl
   rw [hbc] at e1
   have hb:=hch 0 b x (by rw [hbc]; rfl) rfl
   have one:(zabt x).size<=2000000->∀ q∈[(((b:Int),(1:Int)),zabt x)],FOk Tryz.prog gl0 fYPr [tS (l.map xE).length,i0 q.1.1,i0 q.1.2] (rowH (l.map xE)) ⟨s0 q.2,rowH (l.map xE),[]⟩:=fun h q hq=>by
     rw [List.mem_singleton] at hq; subst hq; exact hx b 0 _ rfl hb h
   rcases hn with ⟨h1,h2⟩ | ⟨h1,h2,h3⟩
   · have e:zabt (.mk 10 a n t [x])=t++⟨#[40]⟩++zabt x++⟨#[41]⟩:=zak h1
     rw [zads _ _ htg,e]; rw [e] at hs
     exact ypFn (zaqB (t:=t) (ar:=1) (m:=n) (b:=false) (one (szM hs)) (by rw [zado,if_neg (by omega),if_pos h1]) (by rw [h2]; exact zaqr 0 (by decide))) rfl (zas0 ⟨e1,e2,e3⟩ hs tg)
   · obtain ⟨j,rfl⟩:=Int.eq_ofNat_of_zero_le h2
     have e:zabt (.mk 10 a (j:Int) t [x])=t++⟨#[40]⟩++zabt x++⟨#[44]⟩++zadR (j:Int)++⟨#[41]⟩:=by rw [zaj9 h1,<-ByteArray.append_assoc,<-ByteArray.append_assoc]; rfl
     rw [zads _ _ htg,e]; rw [e] at hs
     exact ypFn (zaqB (t:=t) (ar:=1) (m:=(j:Int)) (b:=true) (one (szM (szLd (szLd hs)))) (by rw [zado,if_neg (by omega),if_neg (by omega),if_pos h1]) (zaqr j (by omega))) rfl (zasY ⟨e1,e2,e3⟩ hs tg)
end
end Go.Proofs.YtpofhijgccocpaaGreatDoor
end
section
namespace Go.TP
open Go.AS
def Few (l:List RN):Prop:=∀ x∈l,x.kids.length<=2
theorem Few.add {s:RS}(h:Few s.out){x:RN}(hx:x.kids.length<=2):Few (addR x s).2.out:=fun y hy=>by
 rcases List.mem_append.1 hy with hy | hy
 · exact h y hy
 · rw [List.mem_singleton] at hy; subst hy; exact hx
theorem zahw (e:Int)(s:RS):(zaaW e s).out=s.out:=by unfold zaaW; split <;> rfl
theorem zaer (s:RS):(downR s).2.out=s.out:=by
 unfold downR; split
 · exact zahw 16 s
 · rfl
theorem zapw (k:Int)(s:RS):(zabs k s).2.out=s.out:=by
 unfold zabs; split
 · rfl
 · exact zahw 15 s
theorem zagh {part:RS->Nat × RS}(hp:∀ s,Few s.out->Few (part s).2.out)(km:Int->Int)(is:RS->Bool):∀ (f:Nat) (r:Nat × RS),Few r.2.out->Few (zabU part km is f r).2.out
 | 0,_,h=>h
 | f+1,r,h=>by
  rw [zabU]; split
  · exact zagh hp km is f _ (Few.add (hp (zaaB r.2) h) (Nat.le_refl _))
  · exact h
theorem zadK:∀ (f:Nat) (lv:Lv) (s:RS),Few s.out->Few (RP f lv s).2.out
 | 0,_,s,h=>by rw [RP]; exact h
 | f+1, .expr,s,h=>by rw [RP]; exact zagh (zadK f .term) kmE isE f _ (zadK f .term s h)
 | f+1, .term,s,h=>by rw [RP]; exact zagh (zadK f .part) kmT _ f _ (zadK f .part s h)
 | f+1, .part,s,h=>by
  have hd:Few (downR s).2.out:=by rw [zaer]; exact h
  rw [RP]; simp only
  split
  · split
    · exact Few.add (zadK f .part _ hd) (Nat.le_succ _)
    · exact hd
  · exact zadK f .ranged s h
 | f+1, .ranged,s,h=>by
  have hd:Few (downR s).2.out:=by rw [zaer]; exact h
  have ha:=zadK f .atom s h
  have had:Few (downR (RP f .atom s).2).2.out:=by rw [zaer]; exact ha
  rw [RP]; simp only
  split
  · split
    · exact Few.add (zadK f .atom _ hd) (Nat.le_succ _)
    · exact hd
  · split
    · split
      · split
        · exact Few.add (zadK f .atom _ had) (Nat.le_refl _)
        · exact Few.add had (Nat.le_succ _)
      · exact had
    · split
      · exact Few.add (zadK f .atom (zaaB (RP f .atom s).2) ha) (Nat.le_refl 2)
      · exact ha
 | f+1, .atom,s,h=>by
  have hd:Few (downR s).2.out:=by rw [zaer]; exact h
  have hdt:Few (downR (zaaB s)).2.out:=by rw [zaer]; exact h
  have hf:∀ (e:Int) {s:RS},Few s.out->Few (zaaW e s).out:=fun e s h=>by rw [zahw]; exact h
  have hw:∀ (k:Int) {s:RS},Few s.out->Few (zabs k s).2.out:=fun k s h=>by rw [zapw]; exact h
  rw [RP]; simp only
  split
  · split
    · exact hw 3 (zadK f .expr _ hd)
    · exact hd
  · split
    · split
      · split
        · exact Few.add h (Nat.zero_le _)
        · exact hf _ h
      · split
        · exact hf _ h
        · split
          · have hq:∀ {q:List Nat × RS},q=(if zaaH (zaac s.ts).text=1 then (([]:List Nat),(downR (zaaB s)).2) else ([(RP f .expr (downR (zaaB s)).2).1],(RP f .expr (downR (zaaB s)).2).2))->q.1.length<=2/\Few q.2.out:=fun {q} e=>by
              subst e; split
              · exact ⟨Nat.zero_le _,hdt⟩
              · exact ⟨Nat.le_succ _,zadK f .expr _ hdt⟩
            generalize hQ:(if zaaH (zaac s.ts).text=1 then (([]:List Nat),(downR (zaaB s)).2) else ([(RP f .expr (downR (zaaB s)).2).1],(RP f .expr (downR (zaaB s)).2).2))=q
            obtain ⟨h1,h2⟩:=hq hQ.symm
            split
            · split
              · split
                · exact hf _ (hw 4 h2)
                · exact Few.add (s:=upR _) (hw 3 (s:=zaaB _) (hw 4 h2)) h1
              · exact Few.add (s:=upR _) (hw 3 (hw 4 h2)) h1
            · exact Few.add (s:=upR _) (hw 3 h2) h1
          · exact hdt
    · exact hf _ h
end Go.TP
end
section
namespace Go.TP
open Go.AS
mutual
def cntS:Nd->Nat
 | .mk _ _ _ _ ks=>cntL ks+1
def cntL:List Nd->Nat
 | []=>0
 | n::r=>cntS n+cntL r
end
theorem zalJ {k a n:Int}{t:ByteArray}:cntS (.mk k a n t [])=1:=rfl
theorem zai7 {k a n:Int}{t:ByteArray}{x:Nd}:cntS (.mk k a n t [x])=cntS x+1:=rfl
theorem zalI {k a n:Int}{t:ByteArray}{x y:Nd}:cntS (.mk k a n t [x,y])=cntS x+cntS y+1:=rfl
def Cn (ts:List Tk)(r:R):Prop:=cntS r.n+2*r.ts.length<=2*ts.length+1
theorem zacz {ts:List Tk}(h:okT ts)(hk:(zaac ts).kind≠11):(zaas ts).length+1=ts.length:=by
 cases ts with
 | nil=>exact h.elim
 | cons t r=>have hk:t.kind≠11:=hk; rw [zagw hk]; rfl
theorem zah6 {part:List Tk->R}(hp:∀ ts,okT ts->Inv ts (part ts))(hq:∀ ts,okT ts->Cn ts (part ts))(km:Int->Int)(h11:km 11=0):∀ (n:Nat) (r:R) (ts:List Tk),okT r.ts->Cn ts r->Cn ts (zac2 part km n r)
 | 0,r,ts,_,h=>by rw [zac2]; exact h
 | n+1,r,ts,h,hn=>by
  rw [zac2]
  split
  · rename_i hc
    have h1:=zaay h
    have h2:=hq _ h1.1
    have h3:=zacz h (fun e=>hc.2 (by rw [e,h11]))
    refine zah6 hp hq km h11 n ⟨.mk (km (zaac r.ts).kind) (zaac r.ts).at_ 0 ByteArray.empty [r.n,(part (zaas r.ts)).n],(part (zaas r.ts)).e,(part (zaas r.ts)).ts⟩ ts (hp _ h1.1).1 ?_
    unfold Cn at hn h2 ⊢
    rw [zalI]
    show cntS r.n+cntS (part (zaas r.ts)).n+1+2*(part (zaas r.ts)).ts.length<=_
    omega
  · exact hn
theorem zac6 {d:Int}{t:Tk}{n0:Nd}{ts us:List Tk}{f:Int->List Tk->R}(h:cntS n0+2*us.length<=2*ts.length+1)(hf:Cn ts (f (d+1) us)):Cn ts (zabI d t n0 us f):=by
 unfold zabI
 split
 · exact h
 · exact hf
theorem Cn.of {ts us:List Tk}{r:R}(h:Cn us r)(hl:us.length<=ts.length):Cn ts r:=by unfold Cn at *; omega
theorem cnq {ts us:List Tk}{n:Nd}{e:Option (Int × Int)}(h:cntS n+2*us.length<=2*ts.length+1):Cn ts ⟨n,e,us⟩:=h
theorem cnz {ts us:List Tk}{k a n:Int}{t:ByteArray}{e:Option (Int × Int)}(h:us.length<=ts.length):Cn ts ⟨.mk k a n t [],e,us⟩:=cnq (by rw [zalJ]; omega)
theorem cnZ {ts us:List Tk}{e:Option (Int × Int)}(h:us.length<=ts.length):Cn ts ⟨.zero,e,us⟩:=cnz h
theorem cn1 {ts us:List Tk}{k a n:Int}{t:ByteArray}{x:Nd}{e:Option (Int × Int)}(h:cntS x+1+2*us.length<=2*ts.length+1):Cn ts ⟨.mk k a n t [x],e,us⟩:=by
 unfold Cn; rw [zai7]; exact h
theorem zajT:∀ (f:Nat) (lv:Lv) (d:Int) (ts:List Tk),okT ts->Cn ts (PF f lv d ts)
 | 0,_,_,ts,h=>by rw [PF]; show 1+2*ts.length<=_; omega
 | f+1, .expr,d,ts,h=>by
  rw [PF]
  exact zah6 (fun us hu=>zabx f .term d us hu) (fun us hu=>zajT f .term d us hu) kmE rfl f _ ts (zabx f .term d ts h).1 (zajT f .term d ts h)
 | f+1, .term,d,ts,h=>by
  rw [PF]
  exact zah6 (fun us hu=>zabx f .part d us hu) (fun us hu=>zajT f .part d us hu) kmT rfl f _ ts (zabx f .part d ts h).1 (zajT f .part d ts h)
 | f+1, .part,d,ts,h=>by
  rw [PF]
  simp only
  split
  · exact zajT f .ranged d ts h
  · rename_i hk
    have h1:=zaay h
    have h0:=zacz h (fun e=>hk (by rw [e]; decide))
    refine zac6 (by rw [zalJ]; omega) (cn1 ?_)
    have:=zajT f .part (d+1) _ h1.1
    unfold Cn at this; omega
 | f+1, .ranged,d,ts,h=>by
  rw [PF]
  simp only
  have h1:=zaay h
  split
  · rename_i hk
    have h0:=zacz h (by rw [hk]; decide)
    refine zac6 (by rw [zalJ]; omega) (cn1 ?_)
    have:=zajT f .atom (d+1) _ h1.1
    unfold Cn at this; omega
  · have h2:=zajT f .atom d ts h
    have i2:=zabx f .atom d ts h
    have second:∀ (d:Int) (us:List Tk) (k a:Int) (n:Nd) (m:Bool),okT us->cntS n+1+2*us.length<=2*ts.length->Cn ts (zacn (PF f .atom d) k a n m us):=fun d us k a n m hu hn=>by
      unfold zacn
      split
      · exact cn1 (by omega)
      · have:=zajT f .atom d us hu
        unfold Cn at this ⊢
        rw [zalI]
        show cntS n+cntS (PF f .atom d us).n+1+2*(PF f .atom d us).ts.length<=_
        omega
    have h3:=zaay i2.1
    split
    · exact h2
    · split
      · rename_i hk
        have h4:=zacz i2.1 (by rw [hk]; decide)
        unfold Cn at h2
        exact zac6 (by rw [zai7]; omega) (second _ _ _ _ _ _ h3.1 (by omega))
      · split
        · rename_i hk
          have h4:=zacz i2.1 (by rw [hk]; decide)
          unfold Cn at h2
          exact second _ _ _ _ _ _ h3.1 (by omega)
        · exact h2
 | f+1, .atom,d,ts,h=>by
  rw [PF]
  simp only
  have h1:=zaay h
  have h3:=zaay h1.1
  split
  · refine zac6 (show 1+2*_<=2*_+1 by omega) ?_
    have h2:=zajT f .expr (d+1) _ h1.1
    have i2:=zabx f .expr (d+1) _ h1.1
    split
    · exact h2.of h1.2
    · have h4:=zab (k:=3) i2.1
      unfold Cn at h2
      exact cnq (by omega)
  · split
    · rename_i hk
      have h0:=zacz h (by rw [hk]; decide)
      split
      · unfold zavM
        simp only
        split
        · exact cnZ h1.2
        · refine zac6 (show 1+2*_<=2*_+1 by omega) ?_
          have l3:=Nat.le_trans h3.2 h1.2
          split
          · have h4:=zab (k:=3) h3.1
            exact cnz (by omega)
          · have h2:=zajT f .expr (d+1) _ h3.1
            have i2:=zabx f .expr (d+1) _ h3.1
            unfold Cn at h2
            split
            · exact cn1 (by omega)
            · split
              · have h4:=zab (k:=3) i2.1
                exact cn1 (by omega)
              · have h4:=zab (k:=4) i2.1
                split
                · exact cn1 (by omega)
                · split
                  · exact cn1 (by omega)
                  · have h5:=zaay h4.1
                    have h6:=zab (k:=3) h5.1
                    exact cn1 (by omega)
      · split
        · exact cnz h1.2
        · exact cnZ h1.2
    · exact cnZ (Nat.le_refl _)
end Go.TP
end
section
namespace Go.TP
open Go.AS
def Rows (l:List RN):List Nat->List Nd->Prop
 | [],[]=>True
 | b::bs,n::ns=>Rep l b n/\Rows l bs ns
 | _,_=>False
theorem Rows.len {l:List RN}:∀ {bs:List Nat} {ns:List Nd},Rows l bs ns->bs.length=ns.length
 | [],[],_=>rfl
 | _::_,_::_,h=>congrArg (· + 1) (Rows.len h.2)
theorem Rows.at {l:List RN}:∀ {bs:List Nat} {ns:List Nd},Rows l bs ns->∀ (i b:Nat) (n:Nd),bs[i]?=some b->ns[i]?=some n->Rep l b n
 | _::_,_::_,h,0,_,_,h1,h2=>by cases h1; cases h2; exact h.1
 | _::_,_::_,h,i+1,b,n,h1,h2=>Rows.at h.2 i b n h1 h2
theorem Rows.of {l:List RN}:∀ {bs:List Nat} {ns:List Nd},bs.length=ns.length->(∀ (i b:Nat) (n:Nd),bs[i]?=some b->ns[i]?=some n->Rep l b n)->Rows l bs ns
 | [],[],_,_=>trivial
 | _::_,_::_,hl,h=>⟨h 0 _ _ rfl rfl,Rows.of (Nat.succ.inj hl) fun i b n h1 h2=>h (i+1) b n h1 h2⟩
theorem Rows.mk {l:List RN}{a:Nat}{x:RN}{ks:List Nd}(hx:l[a]?=some x)(hlt:∀ b∈x.kids,b<a)(h:Rows l x.kids ks):Rep l a (.mk x.kind x.at_ x.n x.text ks) := .mk a x ks hx h.len hlt h.at
theorem Rows.app {l:List RN}:∀ {bs:List Nat} {ns:List Nd} {cs:List Nat} {ms:List Nd},Rows l bs ns->Rows l cs ms->Rows l (bs++cs) (ns++ms)
 | [],[],_,_,_,h=>h
 | _::_,_::_,_,_,h,g=>⟨h.1,Rows.app h.2 g⟩
theorem zalK:∀ (a b:List Nd),cntL (a++b)=cntL a+cntL b
 | [],b=>by show cntL b=0+_; omega
 | x::a,b=>by show cntS x+cntL (a++b)=cntS x+cntL a+_; rw [zalK a b]; omega
theorem zadi:∀ {l:List Nd},zal1 l↔∀ x∈l,zacX x
 | []=>by simp [zal1]
 | n::r=>by simp [zal1,zadi (l:=r)]
theorem zams {l:List RN}{k:Nat}(x:RN){p:Nat}{n:Nd}(h:Rep l p n):p<k->Rep (l.set k x) p n:=by
 induction h with
 | mk a y ks hx hl hlt hk ih =>
  intro ha
  refine .mk a y ks (by rw [List.getElem?_set_ne (by omega)]; exact hx) hl hlt fun i b u h1 h2=>ih i b u h1 h2 ?_
  have:=hlt b (List.mem_of_getElem? h1); omega
theorem fewN {l:List RN}(hf:Few l){a:Nat}{x:RN}(h:l[a]?=some x):x.kids.length<=2:=hf x (List.mem_of_getElem? h)
structure Turn (x0 x:RN):Prop where
 k:x.kids=x0.kids∨x.kids=[]∨∃ b bs,x0.kids=b::bs/\x.kids=b::bs++[b]
 t:x.text=x0.text∨x.text.size<=600
theorem zarC {l:List RN}(hf:Few l){k:Nat}{x0 x:RN}(h0:l[k]?=some x0)(hT:Turn x0 x){p:Nat}{n:Nd}(h:Rep l p n):zacX n->∃ m,Rep (l.set k x) p m/\cntS m<=2*cntS n/\fanS m=true/\zacX m:=by
 have fanO:∀ {p n},Rep l p n->fanS n=true:=fun {p n} h=>by
  induction h with
  | mk a y ks hx hl hlt hk ih =>
   refine zag3.2 ⟨by have:=fewN hf hx; omega,fun u hu => ?_⟩
   obtain ⟨i,hi,e⟩:=List.mem_iff_getElem.1 hu
   exact ih i _ u (List.getElem?_eq_getElem (by omega:i<y.kids.length)) (by rw [List.getElem?_eq_getElem hi,e])
 induction h with
 | mk a y ks hx hl hlt hk ih =>
  intro hn
  have hn:y.text.size<=600/\zal1 ks:=hn
  have hlk:k<l.length:=(List.getElem?_eq_some_iff.1 h0).1
  have hy:=fewN hf hx
  by_cases e:a=k
  · subst e
    rw [h0] at hx; cases hx
    have hr:Rows (l.set a x) x0.kids ks:=Rows.of hl fun i b u h1 h2=>zams x (hk i b u h1 h2) (hlt b (List.mem_of_getElem? h1))
    have hx:(l.set a x)[a]?=some x:=by rw [List.getElem?_set_self hlk]
    have ht : x.text.size <= 600 := by
     rcases hT.t with h | h
     · rw [h]; exact hn.1
     · exact h
    have hfk:∀ u∈ks,fanS u=true:=fun u hu=>by
      obtain ⟨i,hi,e⟩:=List.mem_iff_getElem.1 hu
      exact fanO (hk i _ u (List.getElem?_eq_getElem (by omega:i<x0.kids.length)) (by rw [List.getElem?_eq_getElem hi,e]))
    rcases hT.k with h | h | ⟨b,bs,h1,h2⟩
    · exact ⟨_,Rows.mk (ks:=ks) hx (by rw [h]; exact hlt) (by rw [h]; exact hr),by show cntL ks+1<=2*(cntL ks+1); omega,zag3.2 ⟨by omega,hfk⟩,ht,hn.2⟩
    · exact ⟨_,Rows.mk (ks:=[]) hx (by rw [h]; intro b hb; cases hb) (by rw [h]; trivial),by show 0+1<=2*(cntL ks+1); omega,rfl,ht,trivial⟩
    · match ks,hl with
      | [],hl=>rw [h1] at hl; cases hl
      | u::us,hl =>
        rw [h1] at hr hl hlt hy
        have hr':Rows (l.set a x) x.kids (u::us++[u]):=by rw [h2]; exact Rows.app (bs:=b::bs) (ns:=u::us) hr ⟨hr.1,trivial⟩
        refine ⟨_,Rows.mk hx (fun c hc => ?_) hr',?_,zag3.2 ⟨?_,fun v hv => ?_⟩,ht,zadi.2 fun v hv => ?_⟩
        · rw [h2] at hc
          rcases List.mem_append.1 hc with hc | hc
          · exact hlt c hc
          · rw [List.mem_singleton] at hc; subst hc; exact hlt c (.head _)
        · show cntL (u::us++[u])+1<=2*(cntL (u::us)+1)
          rw [zalK]; show cntS u+cntL us+(cntS u+0)+1<=2*(cntS u+cntL us+1); omega
        · rw [List.length_append,List.length_singleton]; omega
        · rcases List.mem_append.1 hv with hv | hv
          · exact hfk v hv
          · rw [List.mem_singleton] at hv; subst hv; exact hfk v (.head _)
        · rcases List.mem_append.1 hv with hv | hv
          · exact zadi.1 hn.2 v hv
          · rw [List.mem_singleton] at hv; subst hv; exact zadi.1 hn.2 v (.head _)
  · have go:∀ (bs:List Nat) (us:List Nd),bs.length=us.length->(∀ (i b:Nat) (u:Nd),bs[i]?=some b->us[i]?=some u->∃ m,Rep (l.set k x) b m/\cntS m<=2*cntS u/\fanS m=true/\zacX m)->∃ ms,Rows (l.set k x) bs ms/\cntL ms<=2*cntL us/\(∀ m∈ms,fanS m=true)/\zal1 ms:=by
      intro bs
      induction bs with
      | nil=>intro us _ _; exact ⟨[],trivial,Nat.zero_le _,fun m hm=>(nomatch hm),trivial⟩
      | cons b bs ihb =>
        intro us hl h
        match us,hl with
        | u::us,hl =>
          obtain ⟨m,h1,h2,h3,h4⟩:=h 0 b u rfl rfl
          obtain ⟨ms,g1,g2,g3,g4⟩:=ihb us (Nat.succ.inj hl) fun i b u h1 h2=>h (i+1) b u h1 h2
          refine ⟨m::ms,⟨h1,g1⟩,by show cntS m+cntL ms<=2*(cntS u+cntL us); omega,fun v hv => ?_,h4,g4⟩
          rcases List.mem_cons.1 hv with rfl | hv
          · exact h3
          · exact g3 v hv
    obtain ⟨ms,g1,g2,g3,g4⟩:=go y.kids ks hl fun i b u h1 h2=>ih i b u h1 h2 (zadi.1 hn.2 u (List.mem_of_getElem? h2))
    exact ⟨_,Rows.mk (by rw [List.getElem?_set_ne (fun h=>e h.symm)]; exact hx) hlt g1,by show cntL ms+1<=2*(cntL ks+1); omega,zag3.2 ⟨by have:=g1.len; omega,g3⟩,hn.1,g4⟩
end Go.TP
end
section
namespace Go.Proofs.YtpofhijgccocpaaGreatDoor
open Go.AS Go.TP
noncomputable section
theorem zafE (n:Nd)(lv:Nat):(zaaC n lv).size<=(zabt n).size+2:=by
 rw [zaed]
 split
 · rw [ByteArray.size_append,ByteArray.size_append]; show 1+_+1<=_; omega
 · omega
theorem zaoy (n:Nd)(h:zaav n=true):zacX n->(zabt n).size<=625*cntS n:=by
 have sg2:∀ s,(zaoH s).size<=2:=fun s=>by
  unfold zaoH
  repeat' split
  all_goals decide
 refine zafU (P:=fun n=>zacX n->(zabt n).size<=625*cntS n) ?_ ?_ ?_ ?_ ?_ n h
 · intro a t _ hf
   have hf:t.size<=600/\True:=hf
   rw [zame]; show _<=625*1; omega
 · intro k a x y hk _ _ hx hy hf
   have h1:=hx hf.2.1
   have h2:=hy hf.2.2.1
   have two:∀ (s:Int) (i j:Nat),zafg (.mk k a 0 ByteArray.empty [x,y])=atS x i++sg s::atS y j->s≠1->(zabt (.mk k a 0 ByteArray.empty [x,y])).size<=625*cntS (.mk k a 0 ByteArray.empty [x,y]):=fun s i j ht hs=>by
     rw [zahl ht hs,ByteArray.size_append,ByteArray.size_append,zalI]
     have:=zafE x i
     have:=zafE y j
     have:=sg2 s
     omega
   rcases hk with rfl | rfl | rfl | rfl | rfl
   · exact two 7 0 1 rfl (by decide)
   · exact two 8 0 1 rfl (by decide)
   · exact two 9 1 2 rfl (by decide)
   · exact two 5 4 4 rfl (by decide)
   · exact two 6 4 4 rfl (by decide)
 · intro k a x hk _ hx hf
   have h1:=hx hf.2.1
   have h2:=zafE x 2
   have h4:=zafE x 4
   rw [zai7]
   rcases hk with rfl | rfl | rfl
   · rw [zaoB,ByteArray.size_append]; show 1+_<=_; omega
   · rw [zaoA,ByteArray.size_append]; show 2+_<=_; omega
   · rw [zaoz,ByteArray.size_append]; show _+2<=_; omega
 · intro a t ht hf
   have hf:t.size<=600/\True:=hf
   rw [zaka ht]; simp only [ByteArray.size_append]; show t.size+1+0+1<=625*1; omega
 · intro a n t x hn _ hx hf
   have h1:=hx hf.2.1
   have hf:t.size<=600/\_:=hf
   rw [zai7]
   rcases hn with ⟨h2,_⟩ | ⟨h2,h3,h4⟩
   · rw [zak h2]; simp only [ByteArray.size_append]; show t.size+1+_+1<=_; omega
   · obtain ⟨j,rfl⟩:=Int.eq_ofNat_of_zero_le h3
     have:=zanW (n:=j) (by omega)
     rw [zaj9 h2]; simp only [ByteArray.size_append]; show t.size+1+(_+1+_)+1<=_; omega
theorem zamM {s:ByteArray}{ts:List Tk}(h:lexS s = .ok ts):ts.length<=601:=by
 unfold lexS at h
 by_cases hs:600<s.size
 · rw [if_pos hs] at h; cases h
 · rw [if_neg hs] at h
   have hg:=zadz s s.size 0 []
   generalize lexG s s.size 0 []=R at h hg
   obtain ⟨_ | j,us⟩:=R
   · cases h
     have:=hg us (Int.le_refl _) (by omega) rfl
     rw [List.length_append,List.length_singleton]
     have e0:((([]:List Tk).length:Nat):Int)=0:=rfl
     omega
   · cases h
theorem zapv {s:ByteArray}{n:Nd}(h:zakE s = .ok n):zacX n/\cntS n<=1203:=by
 unfold zakE at h
 have ho:=@zanT s
 have hl:=@zamM s
 generalize lexS s=L at h ho hl
 cases L with
 | long=>cases h
 | bad i=>cases h
 | ok ts =>
  have hts:=ho rfl
  have hlen:=hl rfl
  have h2:=zacj (5*ts.length+5) .expr 0 ts hts
  have h3:=zajT (5*ts.length+5) .expr 0 ts hts
  have h:zamy (PF (5*ts.length+5) .expr 0 ts) = .ok n:=h
  generalize PF (5*ts.length+5) .expr 0 ts=r at h h2 h3
  obtain ⟨m,e,us⟩:=r
  cases e with
  | some ka=>obtain ⟨k,a⟩:=ka; cases h
  | none =>
   have h:(if (zaac us).kind=11 then ParR.ok m else .bad 15 (zaac us).at_) = .ok n:=h
   split at h
   · cases h
     have h3:cntS n+2*us.length<=2*ts.length+1:=h3
     exact ⟨h2,by omega⟩
   · cases h
end
end Go.Proofs.YtpofhijgccocpaaGreatDoor
end
section
namespace Go.Proofs.YtpofhijgccocpaaGreatDoor
open Go.AS Go.TP
noncomputable section
abbrev zaau:Nat:=3
abbrev spW (P:Prop)(ms:List AV)(ys:List AV)(r:AV):Sp:=⟨Unit,fun _=>P,fun _=>tS ms.length::ys,fun _=>rowH ms,fun _=>⟨r,rowH ms,[1048577]⟩⟩
def zazF (os:Orc)(ns:List AV):Prop:=runF (XB.ask [fTop]) 12 fTop (fn fTop) (code fTop) os 0 [] [tS ns.length] (rowH ns) ⟨i0 ((ns.length:Int)-1),rowH ns,[]⟩
def XPR (xs:List AV)(s:ByteArray)(r:AV):WX:=((((XB.add zai1 (Sp.con [spQ [.lst false 1 xs] (s0 s)])).add zabe (Sp.con [spQ [s0 s] r])).add zalq (Sp.con [spQ [] (b0 true)])).add zaqT (Sp.con [zakm]))
abbrev pTop (ms:List AV):AV:=i0 ((ms.length:Int)-1)
def XPO (xs:List AV)(s:ByteArray)(ns ms:List AV)(n:AV)(b:Bool)(w:ByteArray):WX :=
 ((((((XPR xs s (.tup [zaxK ns,i0 0,i0 0])).add fTop (Sp.conW [spW True ms [] (pTop ms)])).add zaa1 (Sp.conW [spW True ms [pTop ms] n])).add fRgt (Sp.conW [spW True ms [pTop ms] (b0 b)])).add zacJ (Sp.con [spQ [n] (b0 b)])).add zag4 (Sp.con [spQ [n] (s0 w)])).add fYPr (Sp.conW [spW (b=true) ms [pTop ms,i0 1] (s0 w)])
def gPR (X:WX)(os:Orc)(xs:List AV)(a h b:Int):Prop:=lawW ((X.ask [zaau]).askAt zaau [40,41,73,76,77,79,85,2000085,4000070]) 12 zaau (fn zaau) (code zaau) os [.lst false 1 xs,i0 a,i0 h,i0 b]
def gPRB (os:Orc)(xs:List AV)(a h b:Int)(s:ByteArray)(k j:Int):Prop:=gPR (XPR xs s (.tup [zajp,i0 k,i0 j])) os xs a h b
def gPRO (os:Orc)(xs:List AV)(a h b:Int)(s:ByteArray)(ns ms:List AV)(k a1 m:Int)(w:ByteArray)(vs:List AV)(r:Bool)(x:ByteArray):Prop:=gPR (XPO xs s ns ms (nV k a1 m w vs) r x) os xs a h b
def gY0 (os:Orc)(xs:List AV)(a h b:Int)(s:ByteArray)(ns ms:List AV)(k a1 m:Int)(w:ByteArray)(vs:List AV)(r:Bool)(x:ByteArray):Prop:=gPRO os xs a h b s ns ms k a1 m w vs r x
def gY1 (os:Orc)(xs:List AV)(a h b:Int)(s:ByteArray)(ns ms:List AV)(k a1 m:Int)(w:ByteArray)(vs:List AV)(r:Bool)(x:ByteArray):Prop:=gPRO os xs a h b s ns ms k a1 m w vs r x
def gY2 (os:Orc)(xs:List AV)(a h b:Int)(s:ByteArray)(ns ms:List AV)(k a1 m:Int)(w:ByteArray)(vs:List AV)(r:Bool)(x:ByteArray):Prop:=gPRO os xs a h b s ns ms k a1 m w vs r x
def gY3 (os:Orc)(xs:List AV)(a h b:Int)(s:ByteArray)(ns ms:List AV)(k a1 m:Int)(w:ByteArray)(vs:List AV)(r:Bool)(x:ByteArray):Prop:=gPRO os xs a h b s ns ms k a1 m w vs r x
def gY4 (os:Orc)(xs:List AV)(a h b:Int)(s:ByteArray)(ns ms:List AV)(k a1 m:Int)(w:ByteArray)(vs:List AV)(r:Bool)(x:ByteArray):Prop:=gPRO os xs a h b s ns ms k a1 m w vs r x
def gY5 (os:Orc)(xs:List AV)(a h b:Int)(s:ByteArray)(ns ms:List AV)(k a1 m:Int)(w:ByteArray)(vs:List AV)(r:Bool)(x:ByteArray):Prop:=gPRO os xs a h b s ns ms k a1 m w vs r x
def gY6 (os:Orc)(xs:List AV)(a h b:Int)(s:ByteArray)(ns ms:List AV)(k a1 m:Int)(w:ByteArray)(vs:List AV)(r:Bool)(x:ByteArray):Prop:=gPRO os xs a h b s ns ms k a1 m w vs r x
end
end Go.Proofs.YtpofhijgccocpaaGreatDoor
end
section
namespace Go.Proofs.YtpofhijgccocpaaGreatDoor
open Go Go.AS Go.TP
noncomputable abbrev zaaJ (ns:List AV) (i3:Int × Int):=(List.getD ns (0+Int.toNat (Prod.fst i3 % Prod.snd i3)) uu)
noncomputable abbrev zaix (ns:List AV)(ms:List AV):=(True/\Wks [AV.agg [AV.slc 1048577 [0,0] 0 (List.length ns)],i0 ((↑(List.length ms):Int)-1)] [AV.agg [AV.slc 1048577 [0,0] 0 (List.length ms)],i0 ((↑(List.length ms):Int)-1)]/\HW (hpL [eR 1048577 [0,0] 5 ms]) (hpL [eR 1048577 [0,0] 5 ms]) [1048577])
noncomputable abbrev zaiw (ns:List AV) (ms:List AV):=(True/\Wks [AV.agg [AV.slc 1048577 [0,0] 0 (List.length ns)]] [AV.agg [AV.slc 1048577 [0,0] 0 (List.length ms)]]/\HW (hpL [eR 1048577 [0,0] 5 ms]) (hpL [eR 1048577 [0,0] 5 ms]) [1048577])
noncomputable abbrev zaps (k:Int) (a1:Int) (m:Int) (w:ByteArray) (vs:List AV):=(True/\Wks [AV.agg [i0 k,i0 a1,i0 m,s0 w,AV.lst false 5 vs]] [AV.agg [i0 k,i0 a1,i0 m,s0 w,AV.lst false 5 vs]]/\hpL []=hpL [])
noncomputable abbrev zapr (r:Bool)(ns:List AV)(ms:List AV)(x:ByteArray):=(r=true/\Wks [AV.agg [AV.slc 1048577 [0,0] 0 (List.length ns)],i0 ((↑(List.length ms):Int)-1),i0 1] [AV.agg [AV.slc 1048577 [0,0] 0 (List.length ms)],i0 ((↑(List.length ms):Int)-1),i0 1]/\HW (hpL [eR 1048577 [0,0] 5 ms]) (hpL [eR 1048577 [0,0] 5 ms]) [1048577])/\true=true/\b0 (ByteArray.toList x==ByteArray.toList x)=b0 true
noncomputable abbrev zaiv (i3:Int × Int)(ns:List AV):=(decide ((0:Int)<=Prod.fst i3 % Prod.snd i3/\Prod.fst i3 % Prod.snd i3<(↑(List.length ns):Int))&&(true&&Nat.beq 5 5))
noncomputable abbrev zapq (i3:Int × Int)(a:Int)(ns:List AV):=(((0:Int)<Prod.snd i3/\Prod.snd i3<=1000000)/\Wks [i0 a,i0 (↑(List.length ns):Int)] [i0 (Prod.fst i3),i0 (Prod.snd i3)]/\hpL []=hpL [])
noncomputable abbrev zaqQ (ns:List AV) (i3:Int × Int):=(List.take (List.length (elsA (nthA 4 (zaaJ ns i3)))) (List.drop 0 (elsA (nthA 4 (zaaJ ns i3))))++[i0 (intA (List.getD (elsA (nthA 4 (zaaJ ns i3))) 0 uu))])
noncomputable abbrev zapp (i4:Int × Int) (h:Int):=(((0:Int)<Prod.snd i4/\Prod.snd i4<=1000000)/\Wks [i0 h,i0 7] [i0 (Prod.fst i4),i0 (Prod.snd i4)]/\hpL []=hpL [])
noncomputable abbrev zapo:=[40,41,73,76,77,79,85,2000085,4000070]
noncomputable abbrev zada (ns:List AV) (i3:Int × Int):=[Value.int IntKind.i64 (intA (nthA 1 (zaaJ ns i3)))]
theorem zapS (ns:List AV):zazF (Orc.z) ns=(let z1:=((↑(List.length ns):Int)-1); inR IntKind.i64 z1=true/\Wk (i0 z1) (i0 z1)/\SameH (hpL [eR 1048577 [0,0] 5 ns]) (hpL [eR 1048577 [0,0] 5 ns])):=by kernel_rfl
theorem zan3 (xs:List AV)(a h b:Int)(s:ByteArray)(k j:Int):gPRB (Orc.t Orc.z) xs a h b s k j=(U1 [AV.lst false 1 xs] [] (U1 [s0 s] [] ((k != 0)=true/\U1 [] [] (b0 true=b0 true)))):=by kernel_rfl
def ogY0:Orc:=Orc.f (Orc.t (Orc.f (Orc.s (Orc.t (Orc.t (Orc.t Orc.z))) (HT (Orc.t (Orc.t (Orc.t Orc.z)))))))
theorem zaw3 (xs:List AV)(a h b:Int)(s:ByteArray)(ns ms:List AV)(k a1 m:Int)(w:ByteArray)(vs:List AV)(r:Bool)(x:ByteArray):gY0 ogY0 xs a h b s ns ms k a1 m w vs r x=(let z1:=(Cx.B (cxV (WX.askAt (WX.ask (XPO xs s ns ms (nV k a1 m w vs) r x) [zaau]) zaau (zapo)) 12 zaau)); let z2:=(True/\Wks [] []/\hpL []=hpL []); let z3:=(zaps k a1 m w vs); U1 [AV.lst false 1 xs] [] (U1 [s0 s] [] (Nf (∃ (i3:Int × Int),(zapq i3 a ns)/\decide (List.length ns*64<=140737488355328/\List.length ns<=1152921504606846976)=true/\(zaiv i3 ns)=true/\(true&&(Nat.ble (0+Int.toNat (Prod.fst i3 % Prod.snd i3)+1) (List.length ns)&&zaak z1 shN 33 (zaaJ ns i3)))=true/\∃ (i4:Int × Int),(zapp i4 h)/\(Prod.fst i4 % Prod.snd i4==0)=true/\∃ (i5:Int × Int),(((0:Int)<Prod.snd i5/\Prod.snd i5<=1000000)/\Wks [i0 b,i0 13] [i0 (Prod.fst i5),i0 (Prod.snd i5)]/\hpL []=hpL [])/\inR IntKind.i64 (Prod.fst i5 % Prod.snd i5-1)=true/\(zaiv i3 ns)=true/\(true&&(Nat.ble (0+Int.toNat (Prod.fst i3 % Prod.snd i3)+1) (List.length ns)&&(zaak z1 shN 33 (zaaJ ns i3)&&((List.all [Value.int IntKind.i64 (Prod.fst i5 % Prod.snd i5-1)] fun (x:Value)=>match x with | Value.agg _=>false | Value.tuple _=>false | _=>true)&&((List.all (zada ns i3) fun (x:Value)=>match x with | Value.agg _=>false | Value.tuple _=>false | _=>true)&&((List.all [Value.int IntKind.i64 (intA (nthA 2 (zaaJ ns i3)))] fun (x:Value)=>match x with | Value.agg _=>false | Value.tuple _=>false | _=>true)&&((List.all [Value.string (strA (nthA 3 (zaaJ ns i3)))] fun (x:Value)=>match x with | Value.agg _=>false | Value.tuple _=>false | _=>true)&&(true&&true))))&&(Nat.beq (Array.size { toList:=[Value.int IntKind.i64 (Prod.fst i5 % Prod.snd i5-1)] }+(Array.size { toList:=(zada ns i3) }+(Array.size { toList:=[Value.int IntKind.i64 (intA (nthA 2 (zaaJ ns i3)))] }+(Array.size { toList:=[Value.string (strA (nthA 3 (zaaJ ns i3)))] }+1)))) 5&&(true||false))))))=true/\∃ (_:Unit),(True/\Wks [AV.agg [AV.slc 1048577 [0,0] 0 (List.length ns)]] [AV.agg [AV.slc 1048577 [0,0] 0 (List.length ms)]]/\HW (hpL [eR 1048577 [0,0] 5 (List.set ns (0+Int.toNat (Prod.fst i3 % Prod.snd i3)) (AV.agg [i0 (Prod.fst i5 % Prod.snd i5-1),i0 (intA (nthA 1 (zaaJ ns i3))),i0 (intA (nthA 2 (zaaJ ns i3))),s0 (strA (nthA 3 (zaaJ ns i3))),AV.lst false 1 (elsA (nthA 4 (zaaJ ns i3)))]))]) (hpL [eR 1048577 [0,0] 5 ms]) [1048577])/\∃ (_:Unit),(zaix ns ms)/\∃ (_:Unit),(zaiw ns ms)/\∃ (_:Unit),(zaix ns ms)/\∃ (_:Unit),z3/\(!r==r)=false/\((!r)=true->∃ (_:Unit),z2/\Yt (Yt (∃ (_:Unit),z3/\Yt (b0 (ByteArray.toList x==ByteArray.toList ⟨⟨[]⟩⟩)=b0 true))))/\((!r)=false->∃ (_:Unit),z2/\Yt (Yt (∃ (_:Unit),z3/\Yt (Yt (Yt (∃ (_:Unit),(zaiw ns ms)/\Yt (∃ (_:Unit),(zapr r ns ms x)))))))))))):=by kernel_rfl
def ogY1:Orc:=Orc.f (Orc.f (Orc.t (Orc.f (Orc.s (Orc.t (Orc.t (Orc.t Orc.z))) (HT (Orc.t (Orc.t (Orc.t Orc.z))))))))
theorem zaw1 (xs:List AV)(a h b:Int)(s:ByteArray)(ns ms:List AV)(k a1 m:Int)(w:ByteArray)(vs:List AV)(r:Bool)(x:ByteArray):gY1 ogY1 xs a h b s ns ms k a1 m w vs r x=(let z1:=(Cx.B (cxV (WX.askAt (WX.ask (XPO xs s ns ms (nV k a1 m w vs) r x) [zaau]) zaau (zapo)) 12 zaau)); let z2:=(True/\Wks [] []/\hpL []=hpL []); let z3:=(zaps k a1 m w vs); U1 [AV.lst false 1 xs] [] (U1 [s0 s] [] (Nf (∃ (i3:Int × Int),(zapq i3 a ns)/\decide (List.length ns*64<=140737488355328/\List.length ns<=1152921504606846976)=true/\(zaiv i3 ns)=true/\(true&&(Nat.ble (0+Int.toNat (Prod.fst i3 % Prod.snd i3)+1) (List.length ns)&&zaak z1 shN 33 (zaaJ ns i3)))=true/\∃ (i4:Int × Int),(zapp i4 h)/\(Prod.fst i4 % Prod.snd i4==0)=false/\(Prod.fst i4 % Prod.snd i4==1)=true/\(zaiv i3 ns)=true/\(true&&(Nat.ble (0+Int.toNat (Prod.fst i3 % Prod.snd i3)+1) (List.length ns)&&(zaak z1 shN 33 (zaaJ ns i3)&&((List.all [Value.int IntKind.i64 (intA (nthA 0 (zaaJ ns i3)))] fun (x:Value)=>match x with | Value.agg _=>false | Value.tuple _=>false | _=>true)&&((List.all (zada ns i3) fun (x:Value)=>match x with | Value.agg _=>false | Value.tuple _=>false | _=>true)&&((List.all [Value.int IntKind.i64 b] fun (x:Value)=>match x with | Value.agg _=>false | Value.tuple _=>false | _=>true)&&((List.all [Value.string (strA (nthA 3 (zaaJ ns i3)))] fun (x:Value)=>match x with | Value.agg _=>false | Value.tuple _=>false | _=>true)&&(true&&true))))&&(Nat.beq (Array.size { toList:=[Value.int IntKind.i64 (intA (nthA 0 (zaaJ ns i3)))] }+(Array.size { toList:=(zada ns i3) }+(Array.size { toList:=[Value.int IntKind.i64 b] }+(Array.size { toList:=[Value.string (strA (nthA 3 (zaaJ ns i3)))] }+1)))) 5&&(true||false))))))=true/\∃ (_:Unit),(True/\Wks [AV.agg [AV.slc 1048577 [0,0] 0 (List.length ns)]] [AV.agg [AV.slc 1048577 [0,0] 0 (List.length ms)]]/\HW (hpL [eR 1048577 [0,0] 5 (List.set ns (0+Int.toNat (Prod.fst i3 % Prod.snd i3)) (AV.agg [i0 (intA (nthA 0 (zaaJ ns i3))),i0 (intA (nthA 1 (zaaJ ns i3))),i0 b,s0 (strA (nthA 3 (zaaJ ns i3))),AV.lst false 1 (elsA (nthA 4 (zaaJ ns i3)))]))]) (hpL [eR 1048577 [0,0] 5 ms]) [1048577])/\∃ (_:Unit),(zaix ns ms)/\∃ (_:Unit),(zaiw ns ms)/\∃ (_:Unit),(zaix ns ms)/\∃ (_:Unit),z3/\(!r==r)=false/\((!r)=true->∃ (_:Unit),z2/\Yt (Yt (∃ (_:Unit),z3/\Yt (b0 (ByteArray.toList x==ByteArray.toList ⟨⟨[]⟩⟩)=b0 true))))/\((!r)=false->∃ (_:Unit),z2/\Yt (Yt (∃ (_:Unit),z3/\Yt (Yt (Yt (∃ (_:Unit),(zaiw ns ms)/\Yt (∃ (_:Unit),(zapr r ns ms x)))))))))))):=by kernel_rfl
def ogY2:Orc:=Orc.f (Orc.f (Orc.f (Orc.t (Orc.f (Orc.s (Orc.t (Orc.t (Orc.t Orc.z))) (HT (Orc.t (Orc.t (Orc.t Orc.z)))))))))
theorem zawZ (xs:List AV)(a h b:Int)(s:ByteArray)(ns ms:List AV)(k a1 m:Int)(w:ByteArray)(vs:List AV)(r:Bool)(x:ByteArray):gY2 ogY2 xs a h b s ns ms k a1 m w vs r x=(let z1:=(Cx.B (cxV (WX.askAt (WX.ask (XPO xs s ns ms (nV k a1 m w vs) r x) [zaau]) zaau (zapo)) 12 zaau)); let z2:=[(122:UInt8),(122:UInt8)]; let z3:=[(97:UInt8),(98:UInt8)]; let z4:=Value.string zaaY; let z5:=Value.string wAll; let z6:=(True/\Wks [] []/\hpL []=hpL []); let z7:=(zaps k a1 m w vs); U1 [AV.lst false 1 xs] [] (U1 [s0 s] [] (Nf (∃ (i3:Int × Int),(zapq i3 a ns)/\decide (List.length ns*64<=140737488355328/\List.length ns<=1152921504606846976)=true/\(zaiv i3 ns)=true/\(true&&(Nat.ble (0+Int.toNat (Prod.fst i3 % Prod.snd i3)+1) (List.length ns)&&zaak z1 shN 33 (zaaJ ns i3)))=true/\∃ (i4:Int × Int),(zapp i4 h)/\(Prod.fst i4 % Prod.snd i4==0)=false/\(Prod.fst i4 % Prod.snd i4==1)=false/\(Prod.fst i4 % Prod.snd i4==2)=true/\∃ (i5:Int × Int),(((0:Int)<Prod.snd i5/\Prod.snd i5<=1000000)/\Wks [i0 b,i0 5] [i0 (Prod.fst i5),i0 (Prod.snd i5)]/\hpL []=hpL [])/\(decide ((0:Int)<=Prod.fst i5 % Prod.snd i5/\Prod.fst i5 % Prod.snd i5<5)&&(true&&List.all [Value.string ⟨⟨[]⟩⟩,z5,z4,Value.string { data:={ toList:=z2 } },Value.string { data:={ toList:=z3 } }] zaiP))=true/\(zaiv i3 ns)=true/\(true&&(Nat.ble (0+Int.toNat (Prod.fst i3 % Prod.snd i3)+1) (List.length ns)&&(zaak z1 shN 33 (zaaJ ns i3)&&((List.all [Value.int IntKind.i64 (intA (nthA 0 (zaaJ ns i3)))] fun (x:Value)=>match x with | Value.agg _=>false | Value.tuple _=>false | _=>true)&&((List.all (zada ns i3) fun (x:Value)=>match x with | Value.agg _=>false | Value.tuple _=>false | _=>true)&&((List.all [Value.int IntKind.i64 (intA (nthA 2 (zaaJ ns i3)))] fun (x:Value)=>match x with | Value.agg _=>false | Value.tuple _=>false | _=>true)&&((List.all [Value.string (List.getD (zaaQ [Value.string ⟨⟨[]⟩⟩,z5,z4,Value.string { data:={ toList:=z2 } },Value.string { data:={ toList:=z3 } }]) (Int.toNat (Prod.fst i5 % Prod.snd i5)) ByteArray.empty)] fun (x:Value)=>match x with | Value.agg _=>false | Value.tuple _=>false | _=>true)&&(true&&true))))&&(Nat.beq (Array.size { toList:=[Value.int IntKind.i64 (intA (nthA 0 (zaaJ ns i3)))] }+(Array.size { toList:=(zada ns i3) }+(Array.size { toList:=[Value.int IntKind.i64 (intA (nthA 2 (zaaJ ns i3)))] }+(Array.size { toList:=[Value.string (List.getD (zaaQ [Value.string ⟨⟨[]⟩⟩,z5,z4,Value.string { data:={ toList:=z2 } },Value.string { data:={ toList:=z3 } }]) (Int.toNat (Prod.fst i5 % Prod.snd i5)) ByteArray.empty)] }+1)))) 5&&(true||false))))))=true/\∃ (_:Unit),(True/\Wks [AV.agg [AV.slc 1048577 [0,0] 0 (List.length ns)]] [AV.agg [AV.slc 1048577 [0,0] 0 (List.length ms)]]/\HW (hpL [eR 1048577 [0,0] 5 (List.set ns (0+Int.toNat (Prod.fst i3 % Prod.snd i3)) (AV.agg [i0 (intA (nthA 0 (zaaJ ns i3))),i0 (intA (nthA 1 (zaaJ ns i3))),i0 (intA (nthA 2 (zaaJ ns i3))),s0 (List.getD (zaaQ [Value.string ⟨⟨[]⟩⟩,z5,z4,Value.string { data:={ toList:=z2 } },Value.string { data:={ toList:=z3 } }]) (Int.toNat (Prod.fst i5 % Prod.snd i5)) ByteArray.empty),AV.lst false 1 (elsA (nthA 4 (zaaJ ns i3)))]))]) (hpL [eR 1048577 [0,0] 5 ms]) [1048577])/\∃ (_:Unit),(zaix ns ms)/\∃ (_:Unit),(zaiw ns ms)/\∃ (_:Unit),(zaix ns ms)/\∃ (_:Unit),z7/\(!r==r)=false/\((!r)=true->∃ (_:Unit),z6/\Yt (Yt (∃ (_:Unit),z7/\Yt (b0 (ByteArray.toList x==ByteArray.toList ⟨⟨[]⟩⟩)=b0 true))))/\((!r)=false->∃ (_:Unit),z6/\Yt (Yt (∃ (_:Unit),z7/\Yt (Yt (Yt (∃ (_:Unit),(zaiw ns ms)/\Yt (∃ (_:Unit),(zapr r ns ms x)))))))))))):=by kernel_rfl
def ogY3:Orc:=HF (Orc.t (Orc.f (Orc.s (Orc.t (Orc.t (Orc.t Orc.z))) (HT (Orc.t (Orc.t (Orc.t Orc.z)))))))
theorem zawX (xs:List AV)(a h b:Int)(s:ByteArray)(ns ms:List AV)(k a1 m:Int)(w:ByteArray)(vs:List AV)(r:Bool)(x:ByteArray):gY3 ogY3 xs a h b s ns ms k a1 m w vs r x=(let z1:=(Cx.B (cxV (WX.askAt (WX.ask (XPO xs s ns ms (nV k a1 m w vs) r x) [zaau]) zaau (zapo)) 12 zaau)); let z2:=(True/\Wks [] []/\hpL []=hpL []); let z3:=(zaps k a1 m w vs); U1 [AV.lst false 1 xs] [] (U1 [s0 s] [] (Nf (∃ (i3:Int × Int),(zapq i3 a ns)/\decide (List.length ns*64<=140737488355328/\List.length ns<=1152921504606846976)=true/\(zaiv i3 ns)=true/\(true&&(Nat.ble (0+Int.toNat (Prod.fst i3 % Prod.snd i3)+1) (List.length ns)&&zaak z1 shN 33 (zaaJ ns i3)))=true/\∃ (i4:Int × Int),(zapp i4 h)/\(Prod.fst i4 % Prod.snd i4==0)=false/\(Prod.fst i4 % Prod.snd i4==1)=false/\(Prod.fst i4 % Prod.snd i4==2)=false/\(Prod.fst i4 % Prod.snd i4==3)=true/\(zaiv i3 ns)=true/\(true&&(Nat.ble (0+Int.toNat (Prod.fst i3 % Prod.snd i3)+1) (List.length ns)&&(zaak z1 shN 33 (zaaJ ns i3)&&((List.all [Value.int IntKind.i64 (intA (nthA 0 (zaaJ ns i3)))] fun (x:Value)=>match x with | Value.agg _=>false | Value.tuple _=>false | _=>true)&&((List.all (zada ns i3) fun (x:Value)=>match x with | Value.agg _=>false | Value.tuple _=>false | _=>true)&&((List.all [Value.int IntKind.i64 (intA (nthA 2 (zaaJ ns i3)))] fun (x:Value)=>match x with | Value.agg _=>false | Value.tuple _=>false | _=>true)&&((List.all [Value.string (strA (nthA 3 (zaaJ ns i3)))] fun (x:Value)=>match x with | Value.agg _=>false | Value.tuple _=>false | _=>true)&&(true&&true))))&&(Nat.beq (Array.size { toList:=[Value.int IntKind.i64 (intA (nthA 0 (zaaJ ns i3)))] }+(Array.size { toList:=(zada ns i3) }+(Array.size { toList:=[Value.int IntKind.i64 (intA (nthA 2 (zaaJ ns i3)))] }+(Array.size { toList:=[Value.string (strA (nthA 3 (zaaJ ns i3)))] }+1)))) 5&&(true||false))))))=true/\∃ (_:Unit),(True/\Wks [AV.agg [AV.slc 1048577 [0,0] 0 (List.length ns)]] [AV.agg [AV.slc 1048577 [0,0] 0 (List.length ms)]]/\HW (hpL [eR 1048577 [0,0] 5 (List.set ns (0+Int.toNat (Prod.fst i3 % Prod.snd i3)) (AV.agg [i0 (intA (nthA 0 (zaaJ ns i3))),i0 (intA (nthA 1 (zaaJ ns i3))),i0 (intA (nthA 2 (zaaJ ns i3))),s0 (strA (nthA 3 (zaaJ ns i3))),AV.lit (Value.slice none 0 0)]))]) (hpL [eR 1048577 [0,0] 5 ms]) [1048577])/\∃ (_:Unit),(zaix ns ms)/\∃ (_:Unit),(zaiw ns ms)/\∃ (_:Unit),(zaix ns ms)/\∃ (_:Unit),z3/\(!r==r)=false/\((!r)=true->∃ (_:Unit),z2/\Yt (Yt (∃ (_:Unit),z3/\Yt (b0 (ByteArray.toList x==ByteArray.toList ⟨⟨[]⟩⟩)=b0 true))))/\((!r)=false->∃ (_:Unit),z2/\Yt (Yt (∃ (_:Unit),z3/\Yt (Yt (Yt (∃ (_:Unit),(zaiw ns ms)/\Yt (∃ (_:Unit),(zapr r ns ms x)))))))))))):=by kernel_rfl
def ogY4:Orc:=HF (Orc.f (Orc.t (Orc.t (Orc.f (Orc.s (Orc.t (Orc.t (Orc.t Orc.z))) (HT (Orc.t (Orc.t (Orc.t Orc.z)))))))))
theorem zawV (xs:List AV)(a h b:Int)(s:ByteArray)(ns ms:List AV)(k a1 m:Int)(w:ByteArray)(vs:List AV)(r:Bool)(x:ByteArray):gY4 ogY4 xs a h b s ns ms k a1 m w vs r x=(let z1:=(Cx.B (cxV (WX.askAt (WX.ask (XPO xs s ns ms (nV k a1 m w vs) r x) [zaau]) zaau (zapo)) 12 zaau)); let z2:=(True/\Wks [] []/\hpL []=hpL []); let z3:=(zaps k a1 m w vs); U1 [AV.lst false 1 xs] [] (U1 [s0 s] [] (Nf (∃ (i3:Int × Int),(zapq i3 a ns)/\decide (List.length ns*64<=140737488355328/\List.length ns<=1152921504606846976)=true/\(zaiv i3 ns)=true/\(true&&(Nat.ble (0+Int.toNat (Prod.fst i3 % Prod.snd i3)+1) (List.length ns)&&zaak z1 shN 33 (zaaJ ns i3)))=true/\∃ (i4:Int × Int),(zapp i4 h)/\(Prod.fst i4 % Prod.snd i4==0)=false/\(Prod.fst i4 % Prod.snd i4==1)=false/\(Prod.fst i4 % Prod.snd i4==2)=false/\(Prod.fst i4 % Prod.snd i4==3)=false/\(Prod.fst i4 % Prod.snd i4==4)=true/\decide ((↑(List.length (elsA (nthA 4 (zaaJ ns i3)))):Int)>0)=true/\decide (List.length (elsA (nthA 4 (zaaJ ns i3)))*8<=140737488355328/\List.length (elsA (nthA 4 (zaaJ ns i3)))<=1152921504606846976)=true/\(decide ((0:Int)<=(0:Int)/\(0:Int)<(↑(List.length (elsA (nthA 4 (zaaJ ns i3)))):Int))&&(Nat.beq 1 1&&(zaak z1 shN 3 (List.getD (elsA (nthA 4 (zaaJ ns i3))) 0 uu)&&(false||true))))=true/\(true&&(Nat.beq 1 1&&Nat.ble (0+List.length (elsA (nthA 4 (zaaJ ns i3)))) (List.length (elsA (nthA 4 (zaaJ ns i3)))))&&(Nat.beq 1 1&&decide (List.length (zaqQ ns i3)*8<=140737488355328/\List.length (zaqQ ns i3)<=1152921504606846976)))=true/\0+List.length (zaqQ ns i3)<=List.length (zaqQ ns i3)/\(zaiv i3 ns)=true/\(true&&(Nat.ble (0+Int.toNat (Prod.fst i3 % Prod.snd i3)+1) (List.length ns)&&(zaak z1 shN 33 (zaaJ ns i3)&&((List.all [Value.int IntKind.i64 (intA (nthA 0 (zaaJ ns i3)))] fun (x:Value)=>match x with | Value.agg _=>false | Value.tuple _=>false | _=>true)&&((List.all (zada ns i3) fun (x:Value)=>match x with | Value.agg _=>false | Value.tuple _=>false | _=>true)&&((List.all [Value.int IntKind.i64 (intA (nthA 2 (zaaJ ns i3)))] fun (x:Value)=>match x with | Value.agg _=>false | Value.tuple _=>false | _=>true)&&((List.all [Value.string (strA (nthA 3 (zaaJ ns i3)))] fun (x:Value)=>match x with | Value.agg _=>false | Value.tuple _=>false | _=>true)&&(true&&true))))&&(Nat.beq (Array.size { toList:=[Value.int IntKind.i64 (intA (nthA 0 (zaaJ ns i3)))] }+(Array.size { toList:=(zada ns i3) }+(Array.size { toList:=[Value.int IntKind.i64 (intA (nthA 2 (zaaJ ns i3)))] }+(Array.size { toList:=[Value.string (strA (nthA 3 (zaaJ ns i3)))] }+1)))) 5&&(true||false))))))=true/\∃ (_:Unit),(True/\Wks [AV.agg [AV.slc 1048577 [0,0] 0 (List.length ns)]] [AV.agg [AV.slc 1048577 [0,0] 0 (List.length ms)]]/\HW (hpL [eR 1048577 [0,0] 5 (List.set ns (0+Int.toNat (Prod.fst i3 % Prod.snd i3)) (AV.agg [i0 (intA (nthA 0 (zaaJ ns i3))),i0 (intA (nthA 1 (zaaJ ns i3))),i0 (intA (nthA 2 (zaaJ ns i3))),s0 (strA (nthA 3 (zaaJ ns i3))),AV.lst false 1 (List.take (List.length (zaqQ ns i3)) (List.drop 0 (zaqQ ns i3)))]))]) (hpL [eR 1048577 [0,0] 5 ms]) [1048577])/\∃ (_:Unit),(zaix ns ms)/\∃ (_:Unit),(zaiw ns ms)/\∃ (_:Unit),(zaix ns ms)/\∃ (_:Unit),z3/\(!r==r)=false/\((!r)=true->∃ (_:Unit),z2/\Yt (Yt (∃ (_:Unit),z3/\Yt (b0 (ByteArray.toList x==ByteArray.toList ⟨⟨[]⟩⟩)=b0 true))))/\((!r)=false->∃ (_:Unit),z2/\Yt (Yt (∃ (_:Unit),z3/\Yt (Yt (Yt (∃ (_:Unit),(zaiw ns ms)/\Yt (∃ (_:Unit),(zapr r ns ms x)))))))))))):=by kernel_rfl
def ogY5:Orc:=HF (Orc.f (Orc.t (Orc.f (Orc.f (Orc.s (Orc.t (Orc.t (Orc.t Orc.z))) (HT (Orc.t (Orc.t (Orc.t Orc.z)))))))))
theorem zawT (xs:List AV)(a h b:Int)(s:ByteArray)(ns ms:List AV)(k a1 m:Int)(w:ByteArray)(vs:List AV)(r:Bool)(x:ByteArray):gY5 ogY5 xs a h b s ns ms k a1 m w vs r x=(let z1:=(Cx.B (cxV (WX.askAt (WX.ask (XPO xs s ns ms (nV k a1 m w vs) r x) [zaau]) zaau (zapo)) 12 zaau)); let z2:=(True/\Wks [] []/\hpL []=hpL []); let z3:=(zaps k a1 m w vs); U1 [AV.lst false 1 xs] [] (U1 [s0 s] [] (Nf (∃ (i3:Int × Int),(zapq i3 a ns)/\decide (List.length ns*64<=140737488355328/\List.length ns<=1152921504606846976)=true/\(zaiv i3 ns)=true/\(true&&(Nat.ble (0+Int.toNat (Prod.fst i3 % Prod.snd i3)+1) (List.length ns)&&zaak z1 shN 33 (zaaJ ns i3)))=true/\∃ (i4:Int × Int),(zapp i4 h)/\(Prod.fst i4 % Prod.snd i4==0)=false/\(Prod.fst i4 % Prod.snd i4==1)=false/\(Prod.fst i4 % Prod.snd i4==2)=false/\(Prod.fst i4 % Prod.snd i4==3)=false/\(Prod.fst i4 % Prod.snd i4==4)=true/\decide ((↑(List.length (elsA (nthA 4 (zaaJ ns i3)))):Int)>0)=false/\(zaiv i3 ns)=true/\(true&&(Nat.ble (0+Int.toNat (Prod.fst i3 % Prod.snd i3)+1) (List.length ns)&&(zaak z1 shN 33 (zaaJ ns i3)&&((List.all [Value.int IntKind.i64 (intA (nthA 0 (zaaJ ns i3)))] fun (x:Value)=>match x with | Value.agg _=>false | Value.tuple _=>false | _=>true)&&((List.all (zada ns i3) fun (x:Value)=>match x with | Value.agg _=>false | Value.tuple _=>false | _=>true)&&((List.all [Value.int IntKind.i64 (intA (nthA 2 (zaaJ ns i3)))] fun (x:Value)=>match x with | Value.agg _=>false | Value.tuple _=>false | _=>true)&&((List.all [Value.string (strA (nthA 3 (zaaJ ns i3)))] fun (x:Value)=>match x with | Value.agg _=>false | Value.tuple _=>false | _=>true)&&(true&&true))))&&(Nat.beq (Array.size { toList:=[Value.int IntKind.i64 (intA (nthA 0 (zaaJ ns i3)))] }+(Array.size { toList:=(zada ns i3) }+(Array.size { toList:=[Value.int IntKind.i64 (intA (nthA 2 (zaaJ ns i3)))] }+(Array.size { toList:=[Value.string (strA (nthA 3 (zaaJ ns i3)))] }+1)))) 5&&(true||false))))))=true/\∃ (_:Unit),(True/\Wks [AV.agg [AV.slc 1048577 [0,0] 0 (List.length ns)]] [AV.agg [AV.slc 1048577 [0,0] 0 (List.length ms)]]/\HW (hpL [eR 1048577 [0,0] 5 (List.set ns (0+Int.toNat (Prod.fst i3 % Prod.snd i3)) (AV.agg [i0 (intA (nthA 0 (zaaJ ns i3))),i0 (intA (nthA 1 (zaaJ ns i3))),i0 (intA (nthA 2 (zaaJ ns i3))),s0 (strA (nthA 3 (zaaJ ns i3))),AV.lst false 1 (elsA (nthA 4 (zaaJ ns i3)))]))]) (hpL [eR 1048577 [0,0] 5 ms]) [1048577])/\∃ (_:Unit),(zaix ns ms)/\∃ (_:Unit),(zaiw ns ms)/\∃ (_:Unit),(zaix ns ms)/\∃ (_:Unit),z3/\(!r==r)=false/\((!r)=true->∃ (_:Unit),z2/\Yt (Yt (∃ (_:Unit),z3/\Yt (b0 (ByteArray.toList x==ByteArray.toList ⟨⟨[]⟩⟩)=b0 true))))/\((!r)=false->∃ (_:Unit),z2/\Yt (Yt (∃ (_:Unit),z3/\Yt (Yt (Yt (∃ (_:Unit),(zaiw ns ms)/\Yt (∃ (_:Unit),(zapr r ns ms x)))))))))))):=by kernel_rfl
def ogY6:Orc:=HF (Orc.f (Orc.f (Orc.f (Orc.s (Orc.t (Orc.t (Orc.t Orc.z))) (HT (Orc.t (Orc.t (Orc.t Orc.z))))))))
theorem zawR (xs:List AV)(a h b:Int)(s:ByteArray)(ns ms:List AV)(k a1 m:Int)(w:ByteArray)(vs:List AV)(r:Bool)(x:ByteArray):gY6 ogY6 xs a h b s ns ms k a1 m w vs r x=(let z1:=(Cx.B (cxV (WX.askAt (WX.ask (XPO xs s ns ms (nV k a1 m w vs) r x) [zaau]) zaau (zapo)) 12 zaau)); let z2:=(True/\Wks [] []/\hpL []=hpL []); let z3:=(zaps k a1 m w vs); U1 [AV.lst false 1 xs] [] (U1 [s0 s] [] (Nf (∃ (i3:Int × Int),(zapq i3 a ns)/\decide (List.length ns*64<=140737488355328/\List.length ns<=1152921504606846976)=true/\(zaiv i3 ns)=true/\(true&&(Nat.ble (0+Int.toNat (Prod.fst i3 % Prod.snd i3)+1) (List.length ns)&&zaak z1 shN 33 (zaaJ ns i3)))=true/\∃ (i4:Int × Int),(zapp i4 h)/\(Prod.fst i4 % Prod.snd i4==0)=false/\(Prod.fst i4 % Prod.snd i4==1)=false/\(Prod.fst i4 % Prod.snd i4==2)=false/\(Prod.fst i4 % Prod.snd i4==3)=false/\(Prod.fst i4 % Prod.snd i4==4)=false/\(zaiv i3 ns)=true/\(true&&(Nat.ble (0+Int.toNat (Prod.fst i3 % Prod.snd i3)+1) (List.length ns)&&(zaak z1 shN 33 (zaaJ ns i3)&&((List.all [Value.int IntKind.i64 (intA (nthA 0 (zaaJ ns i3)))] fun (x:Value)=>match x with | Value.agg _=>false | Value.tuple _=>false | _=>true)&&((List.all (zada ns i3) fun (x:Value)=>match x with | Value.agg _=>false | Value.tuple _=>false | _=>true)&&((List.all [Value.int IntKind.i64 (intA (nthA 2 (zaaJ ns i3)))] fun (x:Value)=>match x with | Value.agg _=>false | Value.tuple _=>false | _=>true)&&((List.all [Value.string (strA (nthA 3 (zaaJ ns i3)))] fun (x:Value)=>match x with | Value.agg _=>false | Value.tuple _=>false | _=>true)&&(true&&true))))&&(Nat.beq (Array.size { toList:=[Value.int IntKind.i64 (intA (nthA 0 (zaaJ ns i3)))] }+(Array.size { toList:=(zada ns i3) }+(Array.size { toList:=[Value.int IntKind.i64 (intA (nthA 2 (zaaJ ns i3)))] }+(Array.size { toList:=[Value.string (strA (nthA 3 (zaaJ ns i3)))] }+1)))) 5&&(true||false))))))=true/\∃ (_:Unit),(True/\Wks [AV.agg [AV.slc 1048577 [0,0] 0 (List.length ns)]] [AV.agg [AV.slc 1048577 [0,0] 0 (List.length ms)]]/\HW (hpL [eR 1048577 [0,0] 5 (List.set ns (0+Int.toNat (Prod.fst i3 % Prod.snd i3)) (AV.agg [i0 (intA (nthA 0 (zaaJ ns i3))),i0 (intA (nthA 1 (zaaJ ns i3))),i0 (intA (nthA 2 (zaaJ ns i3))),s0 (strA (nthA 3 (zaaJ ns i3))),AV.lst false 1 (elsA (nthA 4 (zaaJ ns i3)))]))]) (hpL [eR 1048577 [0,0] 5 ms]) [1048577])/\∃ (_:Unit),(zaix ns ms)/\∃ (_:Unit),(zaiw ns ms)/\∃ (_:Unit),(zaix ns ms)/\∃ (_:Unit),z3/\(!r==r)=false/\((!r)=true->∃ (_:Unit),z2/\Yt (Yt (∃ (_:Unit),z3/\Yt (b0 (ByteArray.toList x==ByteArray.toList ⟨⟨[]⟩⟩)=b0 true))))/\((!r)=false->∃ (_:Unit),z2/\Yt (Yt (∃ (_:Unit),z3/\Yt (Yt (Yt (∃ (_:Unit),(zaiw ns ms)/\Yt (∃ (_:Unit),(zapr r ns ms x)))))))))))):=by kernel_rfl
end Go.Proofs.YtpofhijgccocpaaGreatDoor
end
section
namespace Go.Proofs.YtpofhijgccocpaaGreatDoor
open Go Go.AS Go.TP
noncomputable abbrev zapm (ts:List AV):=[eR 1048577 [0,0] 6 [AV.agg [AV.lst false 3 ts,i0 0,i0 0,AV.agg [AV.lit (Value.slice none 0 0)],i0 0,i0 0]]]
theorem zan0 (s:ByteArray)(e i:Int):gXPL (Orc.t Orc.z) s e i=(U1 [s0 s] [] ((e != 0)=true/\Wk (AV.tup [AV.agg [AV.lit (Value.slice none 0 0)],i0 e,i0 i]) (AV.tup [AV.agg [AV.lst false 5 []],i0 e,i0 i])/\SameH (hpL []) (hpL []))):=by kernel_rfl
theorem zato (s:ByteArray)(ts:List AV)(v k d:Int)(xs:List AV)(bad pl:Int):gXPB (Orc.f (Orc.f (Orc.f (Orc.f (Orc.f (Orc.t Orc.z)))))) s ts v k d xs bad pl=(U1 [s0 s] [] (Nf (U1 [AV.ptr 1048577 [0,0] 0 0] (zapm ts) ((bad==0)=false/\Nf (Nf (Nf ((bad != 0)=true/\Wk (AV.tup [AV.agg [AV.lit (Value.slice none 0 0)],i0 bad,i0 pl]) (AV.tup [AV.agg [AV.lst false 5 []],i0 bad,i0 pl])/\SameH (hpL []) (hpL [])))))))):=by kernel_rfl
theorem zatn (s:ByteArray)(ts:List AV)(v k d:Int)(xs:List AV)(bad pl:Int):gXPN (Orc.f (Orc.t (Orc.t (Orc.t (Orc.t (Orc.t Orc.z)))))) s ts v k d xs bad pl=(let z1:=[AV.agg [AV.lst false 3 ts,i0 k,i0 d,AV.agg [AV.slc 1048577 [0,0] 0 (List.length xs)],i0 0,i0 0]]; let z2:=AV.ptr 1048578 [1,0] 0 0; let z3:=eR 1048577 [0,0] 5 xs; U1 [s0 s] [] (Nf (U1 [AV.ptr 1048577 [0,0] 0 0] (zapm ts) (Yt (Yt (U1 [z2,i0 11] [z3,(1048578,{ id:=[1,0],obj:=AObj.row false 6 z1 })] (Yt (Yt (U1 [z2,i0 15] [z3,(1048578,{ id:=[1,0],obj:=AObj.row false 6 z1 })] ((bad != 0)=true/\Wk (AV.tup [AV.agg [AV.lit (Value.slice none 0 0)],i0 bad,i0 pl]) (AV.tup [AV.agg [AV.lst false 5 []],i0 bad,i0 pl])/\SameH (hpL []) (hpL []))))))))))):=by kernel_rfl
theorem zatm (s:ByteArray)(ts:List AV)(v k d:Int)(xs:List AV):gXPY (Orc.f (Orc.t (Orc.t (Orc.t (Orc.f (Orc.f Orc.z)))))) s ts v k d xs=(let z1:=(Option.getD (some (v+1)) (↑(List.length xs):Int)-0); let z2:=[AV.agg [AV.lst false 3 ts,i0 k,i0 d,AV.agg [AV.slc 1048577 [0,0] 0 (List.length xs)],i0 0,i0 0]]; let z3:=(↑(List.length xs):Int); let z4:=[AV.ptr 1048578 [1,0] 0 0,i0 11]; U1 [s0 s] [] (Nf (U1 [AV.ptr 1048577 [0,0] 0 0] (zapm ts) (Yt (Yt (U1 z4 [eR 1048577 [0,0] 5 xs,(1048578,{ id:=[1,0],obj:=AObj.row false 6 z2 })] (Yt (Nf (Nf (inR IntKind.i64 (v+1)=true/\(decide ((0:Int)<=(0:Int)/\(0:Int)<=Option.getD (some (v+1)) z3/\Option.getD (some (v+1)) z3<=z3)&&(true&&Nat.beq 5 5))=true/\0+Int.toNat z1<=List.length xs/\0+Int.toNat z1<=List.length xs/\0+Int.toNat z1<=List.length xs/\0+List.length xs<=List.length xs/\0+List.length xs<=List.length xs/\Wk (AV.tup [AV.agg [AV.lst false 5 (List.take (Int.toNat z1) (List.drop 0 xs))],i0 0,i0 0]) (AV.tup [AV.agg [AV.lst false 5 (List.take (Int.toNat (v+1)) xs)],i0 0,i0 0])/\SameH (hpL []) (hpL []))))))))))):=by kernel_rfl
end Go.Proofs.YtpofhijgccocpaaGreatDoor
end
section
namespace Go.Proofs.YtpofhijgccocpaaGreatDoor
open Go.AS Go.TP
noncomputable section
abbrev exX (v:Int)(σ:Hp)(ws:List Nat):Ex × Back:=(.exit 0,⟨.tup [i0 v],σ,ws⟩)
def gXL (X:WX)(f:Nat)(os:Orc)(P:Prop)(v':Int)(σ':Hp)(r':Ex × Back)(fc:List Nat)(v:Int)(σ:Hp)(r:Ex × Back):Prop :=
 runL X 14 f (fn f).ntmps (zabw (code f) 0) (Lp1 [0,3] [] (fun _=>[3]) P [xArg,i0 v'] σ' r') (Lp1 [0,3] [] (fun _=>[3]) P [xArg,i0 v'] σ' r') os 0 fc [xArg,i0 v] σ r
def gLTE (os:Orc)(P:Prop)(ts:List AV)(k d:Int)(xs:List AV)(bad pl va:Int):Prop :=
 gXL (XQn (XB.add fXIs (Sp.con [spI 9 false (xHp 0 ts k d xs bad pl)])) zaaU [18,20]) zaaU os P va (xHp 0 ts k d xs bad pl) (exX va (xHp 0 ts k d xs bad pl) []) [] va (xHp 0 ts k d xs bad pl) (exX va (xHp 0 ts k d xs bad pl) [])
def gLT9 (os:Orc)(P:Prop)(ts:List AV)(k d:Int)(xs:List AV)(va k2 d2:Int)(xs2:List AV)(bad2 pl2 v a:Int)(vr kr dr:Int)(xr:List AV)(badr plr:Int):Prop :=
 gXL (XQn (((XB.add fXIs (Sp.con [spI 9 true (xHp 0 ts k d xs 0 0)])).add zaaR (Sp.con [spV v (xHp 0 ts (k+1) d xs 0 0) (xHp 1 ts k2 d2 xs2 bad2 pl2)])).add zabG (Sp.con [spA (rgV 4 a 0 ByteArray.empty [i0 va,i0 v]) xs2.length (xHp 0 ts k2 d2 xs2 bad2 pl2) (xHp 1 ts k2 d2 (xs2++[(rgV 4 a 0 ByteArray.empty [i0 va,i0 v])]) bad2 pl2)])) zaaU [18,20]) zaaU os P xs2.length (xHp 0 ts k2 d2 (xs2++[(rgV 4 a 0 ByteArray.empty [i0 va,i0 v])]) bad2 pl2) (exX vr (xHp 1 ts kr dr xr badr plr) [1048577,1048578]) [1048577] va (xHp 0 ts k d xs 0 0) (exX vr (xHp 1 ts kr dr xr badr plr) [1048577,1048578])
def gFT (os:Orc)(ts:List AV)(k d:Int)(xs:List AV)(ka da:Int)(xsa:List AV)(bada pla va:Int)(vr kr dr:Int)(xr:List AV)(badr plr:Int):Prop :=
 runF (((XB.add zaaR (Sp.con [spV va (xHp 0 ts k d xs 0 0) (xHp 1 ts ka da xsa bada pla)])).addLp zaaU 0 (Lp1 [0,3] [] (fun _=>[3]) True [xArg,i0 va] (xHp 0 ts ka da xsa bada pla) (exX vr (xHp 1 ts kr dr xr badr plr) [1048577,1048578]))).ask askX) 14 zaaU (fn zaaU) (code zaaU) os 0 [1048577] [xArg] (xHp 0 ts k d xs 0 0) ⟨i0 vr,(xHp 1 ts kr dr xr badr plr),[1048577,1048578]⟩
def gLEE (os:Orc)(P:Prop)(ts:List AV)(k d:Int)(xs:List AV)(bad pl va:Int):Prop :=
 gXL (XQn (XB.add fXIs (Sp.con [spI 7 false (xHp 0 ts k d xs bad pl),spI 8 false (xHp 0 ts k d xs bad pl)])) zaan [22,24]) zaan os P va (xHp 0 ts k d xs bad pl) (exX va (xHp 0 ts k d xs bad pl) []) [] va (xHp 0 ts k d xs bad pl) (exX va (xHp 0 ts k d xs bad pl) [])
def gLE7 (os:Orc)(P:Prop)(ts:List AV)(k d:Int)(xs:List AV)(va k2 d2:Int)(xs2:List AV)(bad2 pl2 v a:Int)(vr kr dr:Int)(xr:List AV)(badr plr:Int):Prop :=
 gXL (XQn (((XB.add fXIs (Sp.con [spI 7 true (xHp 0 ts k d xs 0 0),spI 8 false (xHp 0 ts k d xs 0 0)])).add zaaU (Sp.con [spV v (xHp 0 ts (k+1) d xs 0 0) (xHp 1 ts k2 d2 xs2 bad2 pl2)])).add zabG (Sp.con [spA (rgV 2 a 0 ByteArray.empty [i0 va,i0 v]) xs2.length (xHp 0 ts k2 d2 xs2 bad2 pl2) (xHp 1 ts k2 d2 (xs2++[(rgV 2 a 0 ByteArray.empty [i0 va,i0 v])]) bad2 pl2)])) zaan [22,24]) zaan os P xs2.length (xHp 0 ts k2 d2 (xs2++[(rgV 2 a 0 ByteArray.empty [i0 va,i0 v])]) bad2 pl2) (exX vr (xHp 1 ts kr dr xr badr plr) [1048577,1048578]) [1048577] va (xHp 0 ts k d xs 0 0) (exX vr (xHp 1 ts kr dr xr badr plr) [1048577,1048578])
def gLE8 (os:Orc)(P:Prop)(ts:List AV)(k d:Int)(xs:List AV)(va k2 d2:Int)(xs2:List AV)(bad2 pl2 v a:Int)(vr kr dr:Int)(xr:List AV)(badr plr:Int):Prop :=
 gXL (XQn (((XB.add fXIs (Sp.con [spI 7 false (xHp 0 ts k d xs 0 0),spI 8 true (xHp 0 ts k d xs 0 0)])).add zaaU (Sp.con [spV v (xHp 0 ts (k+1) d xs 0 0) (xHp 1 ts k2 d2 xs2 bad2 pl2)])).add zabG (Sp.con [spA (rgV 3 a 0 ByteArray.empty [i0 va,i0 v]) xs2.length (xHp 0 ts k2 d2 xs2 bad2 pl2) (xHp 1 ts k2 d2 (xs2++[(rgV 3 a 0 ByteArray.empty [i0 va,i0 v])]) bad2 pl2)])) zaan [22,24]) zaan os P xs2.length (xHp 0 ts k2 d2 (xs2++[(rgV 3 a 0 ByteArray.empty [i0 va,i0 v])]) bad2 pl2) (exX vr (xHp 1 ts kr dr xr badr plr) [1048577,1048578]) [1048577] va (xHp 0 ts k d xs 0 0) (exX vr (xHp 1 ts kr dr xr badr plr) [1048577,1048578])
def gFE (os:Orc)(ts:List AV)(k d:Int)(xs:List AV)(ka da:Int)(xsa:List AV)(bada pla va:Int)(vr kr dr:Int)(xr:List AV)(badr plr:Int):Prop :=
 runF (((XB.add zaaU (Sp.con [spV va (xHp 0 ts k d xs 0 0) (xHp 1 ts ka da xsa bada pla)])).addLp zaan 0 (Lp1 [0,3] [] (fun _=>[3]) True [xArg,i0 va] (xHp 0 ts ka da xsa bada pla) (exX vr (xHp 1 ts kr dr xr badr plr) [1048577,1048578]))).ask askX) 14 zaan (fn zaan) (code zaan) os 0 [1048577] [xArg] (xHp 0 ts k d xs 0 0) ⟨i0 vr,(xHp 1 ts kr dr xr badr plr),[1048577,1048578]⟩
end
end Go.Proofs.YtpofhijgccocpaaGreatDoor
end
section
namespace Go.Proofs.YtpofhijgccocpaaGreatDoor
open Go Go.AS Go.TP
noncomputable abbrev zaky (ts:List AV) (k:Int) (d:Int) (xs:List AV):=[AV.agg [AV.lst false 3 ts,i0 k,i0 d,AV.slc 1048577 [0,0] 0 (List.length xs),i0 0,i0 0]]
noncomputable abbrev zasb (ts:List AV) (k:Int) (d:Int) (xs:List AV) (bad:Int) (pl:Int):=[AV.agg [AV.lst false 3 ts,i0 k,i0 d,AV.slc 1048577 [0,0] 0 (List.length xs),i0 bad,i0 pl]]
noncomputable abbrev zae2 (ts:List AV) (kr:Int) (dr:Int) (xr:List AV) (badr:Int) (plr:Int):=[AV.agg [AV.lst false 3 ts,i0 kr,i0 dr,AV.slc 1048577 [0,1] 0 (List.length xr),i0 badr,i0 plr]]
theorem zauJ (P:Prop)(ts:List AV)(k d:Int)(xs:List AV)(bad pl va:Int):gLTE (Orc.f Orc.z) P ts k d xs bad pl va=(let z1:=(zasb ts k d xs bad pl); let z2:=eR 1048577 [0,0] 5 xs; U1 [AV.ptr 1048578 [1,0] 0 0,i0 9] [z2,(1048578,{ id:=[1,0],obj:=AObj.row false 6 z1 })] (Nf (Ex.exit 0=Ex.exit 0/\Wk (AV.tup [i0 va]) (AV.tup [i0 va])/\SameH (hpL [z2,(1048578,{ id:=[1,0],obj:=AObj.row false 6 z1 })]) (hpL [z2,(1048578,{ id:=[1,0],obj:=AObj.row false 6 z1 })])))):=by kernel_rfl
theorem zauK (P:Prop)(ts:List AV)(k d:Int)(xs:List AV)(va k2 d2:Int)(xs2:List AV)(bad2 pl2:Int)(v a:Int)(vr kr dr:Int)(xr:List AV)(badr plr:Int):gLT9 (Orc.t Orc.z) P ts k d xs va k2 d2 xs2 bad2 pl2 v a vr kr dr xr badr plr=(let z1:=AV.agg [i0 4,i0 a,i0 0,s0 ByteArray.empty,AV.lst false 1 [i0 va,i0 v]]; let z2:=AV.ptr 1048578 [1,0] 0 0; let z3:=[AV.agg [AV.lst false 3 ts,i0 k2,i0 d2,AV.slc 1048577 [0,0] 0 (List.length (xs2++[z1])),i0 bad2,i0 pl2]]; let z4:=[AV.agg [AV.lst false 3 ts,i0 k2,i0 d2,AV.slc 1048577 [0,0] 0 (List.length xs2),i0 bad2,i0 pl2]]; let z5:=[AV.agg [AV.lst false 3 ts,i0 (k+1),i0 d,AV.slc 1048577 [0,0] 0 (List.length xs),i0 0,i0 0]]; let z6:=eR 1048577 [0,0] 5 xs; let z7:=(↑(List.length xs2):Int); U1 [z2,i0 9] [z6,(1048578,{ id:=[1,0],obj:=AObj.row false 6 (zaky ts k d xs) })] (Yt ((decide ((0:Int)<=k/\k<(↑(List.length ts):Int))&&(Nat.beq 3 3&&(zaak (Cx.B (cxV (XQn (WX.add (WX.add (WX.add XB fXIs (Sp.con [spI (9:Int) true (xHp 0 ts k d xs (0:Int) (0:Int))])) zaaR (Sp.con [spV v (xHp 0 ts (k+1) d xs (0:Int) (0:Int)) (xHp 1 ts k2 d2 xs2 bad2 pl2)])) zabG (Sp.con [spA (rgV (4:Int) a (0:Int) ByteArray.empty [i0 va,i0 v]) z7 (xHp 0 ts k2 d2 xs2 bad2 pl2) (xHp 1 ts k2 d2 (xs2++[rgV (4:Int) a (0:Int) ByteArray.empty [i0 va,i0 v]]) bad2 pl2)])) zaaU [18,20]) 14 zaaU)) shN 124 (List.getD ts (Int.toNat k) uu)&&(true||false))))=true/\inR IntKind.i64 (k+1)=true/\U1 [z2] [z6,(1048578,{ id:=[1,0],obj:=AObj.row false 6 z5 })] (∃ (_:Unit),(True/\Wks [z2,AV.agg [i0 4,i0 (intA (nthA 1 (List.getD ts (Int.toNat k) uu))),i0 0,s0 ⟨⟨[]⟩⟩,AV.lst true 1 [i0 va,i0 v]]] [z2,z1]/\hpL [eR 1048577 [0,0] 5 xs2,(1048578,{ id:=[1,0],obj:=AObj.row false 6 z4 })]=hpL [eR 1048577 [0,0] 5 xs2,(1048578,{ id:=[1,0],obj:=AObj.row false 6 z4 })])/\∃ (_:Unit),(P/\Wks [z2,i0 z7] [z2,i0 z7]/\hpL [eR 1048577 [0,0] 5 (xs2++[z1]),(1048578,{ id:=[1,0],obj:=AObj.row false 6 z3 })]=hpL [eR 1048577 [0,0] 5 (xs2++[z1]),(1048578,{ id:=[1,0],obj:=AObj.row false 6 z3 })])/\Ex.exit 0=Ex.exit 0/\Wk (AV.tup [i0 vr]) (AV.tup [i0 vr])/\SameH (hpL [eR 1048577 [0,1] 5 xr,(1048578,{ id:=[1,0],obj:=AObj.row false 6 (zae2 ts kr dr xr badr plr) })]) (hpL [eR 1048577 [0,1] 5 xr,(1048578,{ id:=[1,0],obj:=AObj.row false 6 (zae2 ts kr dr xr badr plr) })]))))):=by kernel_rfl
theorem zaw7 (ts:List AV)(k d:Int)(xs:List AV)(ka da:Int)(xsa:List AV)(bada pla:Int)(va vr:Int)(kr dr:Int)(xr:List AV)(badr plr:Int):gFT (Orc.z) ts k d xs ka da xsa bada pla va vr kr dr xr badr plr=(let z1:=[AV.agg [AV.lst false 3 ts,i0 ka,i0 da,AV.slc 1048577 [0,0] 0 (List.length xsa),i0 bada,i0 pla]]; let z2:=AV.ptr 1048578 [1,0] 0 0; U1 [z2] [eR 1048577 [0,0] 5 xs,(1048578,{ id:=[1,0],obj:=AObj.row false 6 (zaky ts k d xs) })] (U1 [z2,i0 va] [eR 1048577 [0,0] 5 xsa,(1048578,{ id:=[1,0],obj:=AObj.row false 6 z1 })] (Wk (i0 vr) (i0 vr)/\SameH (hpL [eR 1048577 [0,1] 5 xr,(1048578,{ id:=[1,0],obj:=AObj.row false 6 (zae2 ts kr dr xr badr plr) })]) (hpL [eR 1048577 [0,1] 5 xr,(1048578,{ id:=[1,0],obj:=AObj.row false 6 (zae2 ts kr dr xr badr plr) })])))):=by kernel_rfl
def zaze:Orc:=Orc.alt 0 (Orc.f (Orc.f (Orc.alt 1 (Orc.f Orc.z))))
theorem zauL (P:Prop)(ts:List AV)(k d:Int)(xs:List AV)(bad pl va:Int):gLEE zaze P ts k d xs bad pl va=(let z1:=(zasb ts k d xs bad pl); let z2:=eR 1048577 [0,0] 5 xs; let z3:=AV.ptr 1048578 [1,0] 0 0; U1 [z3,i0 7] [z2,(1048578,{ id:=[1,0],obj:=AObj.row false 6 z1 })] (Nf (Nf (U1 [z3,i0 8] [z2,(1048578,{ id:=[1,0],obj:=AObj.row false 6 z1 })] (Nf (Ex.exit 0=Ex.exit 0/\Wk (AV.tup [i0 va]) (AV.tup [i0 va])/\SameH (hpL [z2,(1048578,{ id:=[1,0],obj:=AObj.row false 6 z1 })]) (hpL [z2,(1048578,{ id:=[1,0],obj:=AObj.row false 6 z1 })]))))))):=by kernel_rfl
def zazg:Orc:=Orc.alt 0 (Orc.t (Orc.t (Orc.t (Orc.alt 1 (Orc.f Orc.z)))))
theorem zauN (P:Prop)(ts:List AV)(k d:Int)(xs:List AV)(va k2 d2:Int)(xs2:List AV)(bad2 pl2:Int)(v a:Int)(vr kr dr:Int)(xr:List AV)(badr plr:Int):gLE7 zazg P ts k d xs va k2 d2 xs2 bad2 pl2 v a vr kr dr xr badr plr=(let z1:=AV.agg [i0 2,i0 a,i0 0,s0 ByteArray.empty,AV.lst false 1 [i0 va,i0 v]]; let z2:=AV.ptr 1048578 [1,0] 0 0; let z3:=[AV.agg [AV.lst false 3 ts,i0 k2,i0 d2,AV.slc 1048577 [0,0] 0 (List.length (xs2++[z1])),i0 bad2,i0 pl2]]; let z4:=[AV.agg [AV.lst false 3 ts,i0 k2,i0 d2,AV.slc 1048577 [0,0] 0 (List.length xs2),i0 bad2,i0 pl2]]; let z5:=[AV.agg [AV.lst false 3 ts,i0 (k+1),i0 d,AV.slc 1048577 [0,0] 0 (List.length xs),i0 0,i0 0]]; let z6:=eR 1048577 [0,0] 5 xs; let z7:=(↑(List.length xs2):Int); let z8:=(zaky ts k d xs); let z9:=(xHp 0 ts k d xs (0:Int) (0:Int)); U1 [z2,i0 7] [z6,(1048578,{ id:=[1,0],obj:=AObj.row false 6 z8 })] (Yt (Yt (Yt ((decide ((0:Int)<=k/\k<(↑(List.length ts):Int))&&(Nat.beq 3 3&&(zaak (Cx.B (cxV (XQn (WX.add (WX.add (WX.add XB fXIs (Sp.con [spI (7:Int) true z9,spI (8:Int) false z9])) zaaU (Sp.con [spV v (xHp 0 ts (k+1) d xs (0:Int) (0:Int)) (xHp 1 ts k2 d2 xs2 bad2 pl2)])) zabG (Sp.con [spA (rgV (2:Int) a (0:Int) ByteArray.empty [i0 va,i0 v]) z7 (xHp 0 ts k2 d2 xs2 bad2 pl2) (xHp 1 ts k2 d2 (xs2++[rgV (2:Int) a (0:Int) ByteArray.empty [i0 va,i0 v]]) bad2 pl2)])) zaan [22,24]) 14 zaan)) shN 124 (List.getD ts (Int.toNat k) uu)&&(true||false))))=true/\U1 [z2,i0 8] [z6,(1048578,{ id:=[1,0],obj:=AObj.row false 6 z8 })] (Nf (inR IntKind.i64 (k+1)=true/\U1 [z2] [z6,(1048578,{ id:=[1,0],obj:=AObj.row false 6 z5 })] (∃ (_:Unit),(True/\Wks [z2,AV.agg [i0 2,i0 (intA (nthA 1 (List.getD ts (Int.toNat k) uu))),i0 0,s0 ⟨⟨[]⟩⟩,AV.lst true 1 [i0 va,i0 v]]] [z2,z1]/\hpL [eR 1048577 [0,0] 5 xs2,(1048578,{ id:=[1,0],obj:=AObj.row false 6 z4 })]=hpL [eR 1048577 [0,0] 5 xs2,(1048578,{ id:=[1,0],obj:=AObj.row false 6 z4 })])/\∃ (_:Unit),(P/\Wks [z2,i0 z7] [z2,i0 z7]/\hpL [eR 1048577 [0,0] 5 (xs2++[z1]),(1048578,{ id:=[1,0],obj:=AObj.row false 6 z3 })]=hpL [eR 1048577 [0,0] 5 (xs2++[z1]),(1048578,{ id:=[1,0],obj:=AObj.row false 6 z3 })])/\Ex.exit 0=Ex.exit 0/\Wk (AV.tup [i0 vr]) (AV.tup [i0 vr])/\SameH (hpL [eR 1048577 [0,1] 5 xr,(1048578,{ id:=[1,0],obj:=AObj.row false 6 (zae2 ts kr dr xr badr plr) })]) (hpL [eR 1048577 [0,1] 5 xr,(1048578,{ id:=[1,0],obj:=AObj.row false 6 (zae2 ts kr dr xr badr plr) })]))))))))):=by kernel_rfl
def zazf:Orc:=Orc.alt 0 (Orc.f (Orc.f (Orc.alt 1 (Orc.t (Orc.alt 1 (Orc.t Orc.z))))))
theorem zauM (P:Prop)(ts:List AV)(k d:Int)(xs:List AV)(va k2 d2:Int)(xs2:List AV)(bad2 pl2:Int)(v a:Int)(vr kr dr:Int)(xr:List AV)(badr plr:Int):gLE8 zazf P ts k d xs va k2 d2 xs2 bad2 pl2 v a vr kr dr xr badr plr=(let z1:=AV.agg [i0 3,i0 a,i0 0,s0 ByteArray.empty,AV.lst false 1 [i0 va,i0 v]]; let z2:=AV.ptr 1048578 [1,0] 0 0; let z3:=eR 1048577 [0,0] 5 xs; let z4:=[AV.agg [AV.lst false 3 ts,i0 k2,i0 d2,AV.slc 1048577 [0,0] 0 (List.length (xs2++[z1])),i0 bad2,i0 pl2]]; let z5:=[AV.agg [AV.lst false 3 ts,i0 k2,i0 d2,AV.slc 1048577 [0,0] 0 (List.length xs2),i0 bad2,i0 pl2]]; let z6:=[AV.agg [AV.lst false 3 ts,i0 (k+1),i0 d,AV.slc 1048577 [0,0] 0 (List.length xs),i0 0,i0 0]]; let z7:=(zaky ts k d xs); let z8:=(↑(List.length xs2):Int); let z9:=(xHp 0 ts k d xs (0:Int) (0:Int)); U1 [z2,i0 7] [z3,(1048578,{ id:=[1,0],obj:=AObj.row false 6 z7 })] (Nf (Nf (U1 [z2,i0 8] [z3,(1048578,{ id:=[1,0],obj:=AObj.row false 6 z7 })] (Yt ((decide ((0:Int)<=k/\k<(↑(List.length ts):Int))&&(Nat.beq 3 3&&(zaak (Cx.B (cxV (XQn (WX.add (WX.add (WX.add XB fXIs (Sp.con [spI (7:Int) false z9,spI (8:Int) true z9])) zaaU (Sp.con [spV v (xHp 0 ts (k+1) d xs (0:Int) (0:Int)) (xHp 1 ts k2 d2 xs2 bad2 pl2)])) zabG (Sp.con [spA (rgV (3:Int) a (0:Int) ByteArray.empty [i0 va,i0 v]) z8 (xHp 0 ts k2 d2 xs2 bad2 pl2) (xHp 1 ts k2 d2 (xs2++[rgV (3:Int) a (0:Int) ByteArray.empty [i0 va,i0 v]]) bad2 pl2)])) zaan [22,24]) 14 zaan)) shN 124 (List.getD ts (Int.toNat k) uu)&&(true||false))))=true/\U1 [z2,i0 8] [z3,(1048578,{ id:=[1,0],obj:=AObj.row false 6 z7 })] (Yt (inR IntKind.i64 (k+1)=true/\U1 [z2] [z3,(1048578,{ id:=[1,0],obj:=AObj.row false 6 z6 })] (∃ (_:Unit),(True/\Wks [z2,AV.agg [i0 3,i0 (intA (nthA 1 (List.getD ts (Int.toNat k) uu))),i0 0,s0 ⟨⟨[]⟩⟩,AV.lst true 1 [i0 va,i0 v]]] [z2,z1]/\hpL [eR 1048577 [0,0] 5 xs2,(1048578,{ id:=[1,0],obj:=AObj.row false 6 z5 })]=hpL [eR 1048577 [0,0] 5 xs2,(1048578,{ id:=[1,0],obj:=AObj.row false 6 z5 })])/\∃ (_:Unit),(P/\Wks [z2,i0 z8] [z2,i0 z8]/\hpL [eR 1048577 [0,0] 5 (xs2++[z1]),(1048578,{ id:=[1,0],obj:=AObj.row false 6 z4 })]=hpL [eR 1048577 [0,0] 5 (xs2++[z1]),(1048578,{ id:=[1,0],obj:=AObj.row false 6 z4 })])/\Ex.exit 0=Ex.exit 0/\Wk (AV.tup [i0 vr]) (AV.tup [i0 vr])/\SameH (hpL [eR 1048577 [0,1] 5 xr,(1048578,{ id:=[1,0],obj:=AObj.row false 6 (zae2 ts kr dr xr badr plr) })]) (hpL [eR 1048577 [0,1] 5 xr,(1048578,{ id:=[1,0],obj:=AObj.row false 6 (zae2 ts kr dr xr badr plr) })])))))))))):=by kernel_rfl
theorem zaw8 (ts:List AV)(k d:Int)(xs:List AV)(ka da:Int)(xsa:List AV)(bada pla:Int)(va vr:Int)(kr dr:Int)(xr:List AV)(badr plr:Int):gFE (Orc.z) ts k d xs ka da xsa bada pla va vr kr dr xr badr plr=(let z1:=[AV.agg [AV.lst false 3 ts,i0 ka,i0 da,AV.slc 1048577 [0,0] 0 (List.length xsa),i0 bada,i0 pla]]; let z2:=AV.ptr 1048578 [1,0] 0 0; U1 [z2] [eR 1048577 [0,0] 5 xs,(1048578,{ id:=[1,0],obj:=AObj.row false 6 (zaky ts k d xs) })] (U1 [z2,i0 va] [eR 1048577 [0,0] 5 xsa,(1048578,{ id:=[1,0],obj:=AObj.row false 6 z1 })] (Wk (i0 vr) (i0 vr)/\SameH (hpL [eR 1048577 [0,1] 5 xr,(1048578,{ id:=[1,0],obj:=AObj.row false 6 (zae2 ts kr dr xr badr plr) })]) (hpL [eR 1048577 [0,1] 5 xr,(1048578,{ id:=[1,0],obj:=AObj.row false 6 (zae2 ts kr dr xr badr plr) })])))):=by kernel_rfl
end Go.Proofs.YtpofhijgccocpaaGreatDoor
end
section
namespace Go.Proofs.YtpofhijgccocpaaGreatDoor
open Go.AS Go.TP
noncomputable section
abbrev BL (f:Nat)(xs:List AV)(σ:Hp)(r:Ex × Back):Prop:=zadp Tryz.prog gl0 (fn f).ntmps (zabw (code f) 0) [0,3] (fun _=>[3]) xs σ fun _ q=>q=r
theorem zanq (c:Nat)(all:List Tk)(t:RS)(k:Nat):aget (xS c all t) k=if k=1048577 then some ⟨[0,c], .row true 5 (t.out.map xE)⟩ else if k=1048578 then some ⟨[1,0], .row false 6 [.agg ([.lst false 3 (all.map encT),i0 ((all.length:Int)-t.ts.length),i0 t.deep] ++ .slc 1048577 [0,c] 0 (t.out.map xE).length::[i0 (badE t),i0 (badP t)])]⟩ else none:=by
 unfold xS xHp
 simp only [hpL]
 rw [zaad,zaad,zaaz]; rfl
theorem zaxH {f:Nat}{all:List Tk}{t:RS}{xs:List AV}{σ:Hp}{v:Int}{ws:List Nat}(h:BL f xs σ (exX v (xS 0 all t) ws))(hw:∀ k,k∈ws->k=1048577∨k=1048578):BL f xs σ (exX v (xS 1 all t) [1048577,1048578]):=by
 have hg:=fun c=>zanq c all t
 refine zadp.ren (l:=1048577) (lp:=1048578) (i:=[0,0]) (i':=[0,1]) (ip:=[1,0]) (kk:=0) (ss:=0) h ?_ ((hg 0 _).trans (if_pos rfl)) ((hg 0 _).trans ((if_neg (by decide)).trans (if_pos rfl))) ?_ rfl rfl ⟨[0],rfl⟩ (by decide) (by decide) (hg 1) ?_ ?_ ?_
 · intro z hz; rw [List.mem_singleton] at hz; subst hz; exact .inl rfl
 · intro k e hk
   have hk:=(hg 0 k).symm.trans hk
   split at hk
   · exact .inl ‹_›
   · split at hk
     · exact .inr ‹_›
     · cases hk
 · intro k hk
   rcases hw k hk with rfl | rfl <;> decide
 · decide
 · decide
theorem zaol {all:List Tk}(z:RS)(k a:Int)(ps:List Nat)(c:Nat):xS c all (addR ⟨k,a,0,ByteArray.empty,ps⟩ z).2=xHp c (all.map encT) (plc all z) z.deep (z.out.map xE++[rgV k a 0 ByteArray.empty (ps.map fun j:Nat=>i0 (j:Int))]) (badE z) (badP z):=by
 show xHp c _ (plc all z) z.deep ((z.out++[(⟨k,a,0,ByteArray.empty,ps⟩:RN)]).map xE) (badE z) (badP z)=_
 rw [List.map_append]; rfl
attribute [local irreducible] runL in
set_option maxRecDepth 100000 in
theorem zawf {f:Nat}{all:List Tk}(ih:IH all f):∀ (n:Nat) (r:Nat × RS),XInv all r.2->(r.2.bad=none->r.2.deep<=24)->r.2.ts.length<=n->5*r.2.ts.length<=f ->
  BL zaaU [xArg,i0 r.1] (xS 0 all r.2) (exX (zabU (RP f .part) kmT (isR 9) n r).1 (xS 1 all (zabU (RP f .part) kmT (isR 9) n r).2) [1048577,1048578]):=by
 have fin:∀ {X:WX} (hX:X.Sound) (hp:X.px=X0) {os:Orc} {P:Prop} {v':Int} {σ':Hp} {r':Ex × Back} {fc:List Nat} {v:Int} {σ:Hp} {r:Ex × Back},(P->BL zaaU [xArg,i0 v'] σ' r')->gXL (XQn X zaaU [18,20]) zaaU os P v' σ' r' fc v σ r->BL zaaU [xArg,i0 v] σ r:=by
  intro X hX hp os P v' σ' r' fc v σ r hi g
  have hP:X.px.P=Tryz.prog:=by rw [hp]; rfl
  have hg:X.px.gl=gl0:=by rw [hp]; rfl
  have:=zacD (X:=XQn X zaaU [18,20]) ((hX.ask askX).askAt zaaU _) (f:=zaaU) (fn:=fn zaaU) (code:=code zaaU) (by show X.px.P.funcs[zaaU]?=_; rw [hP]; exact fnOk zaaU (by kernel_rfl)) (by kernel_rfl) (by decide) (fun p=>by show zadp X.px.P X.px.gl _ _ _ _ _ _ _; rw [hP,hg]; exact hi p) g
  show zadp Tryz.prog gl0 _ _ _ _ _ _ _; rw [<-hg,<-hP]; exact this
 intro n
 induction n with
 | zero =>
  intro r h hd hl hf
  have hne:=zakM h.ok
  cases hts:r.2.ts with
  | nil=>exact absurd hts hne
  | cons t u=>rw [hts] at hl; simp at hl
 | succ n ihn =>
  intro r h hd hl hf
  rw [zabU]
  cases hi:isR 9 r.2 with
  | false =>
   simp only [Bool.false_eq_true,if_false]
   have q:gLTE (Orc.f Orc.z) False _ _ _ _ _ _ _:=(zauJ False (all.map encT) (plc all r.2) r.2.deep (r.2.out.map xE) (badE r.2) (badP r.2) r.1).mpr ⟨(),⟨trivial, .refl _,rfl⟩,rfl,rfl, .refl _, .rfl⟩
   exact zaxH (fin (zabg.add (con1 (zaqJ h hi))) rfl (fun c=>c.elim) q) (fun k hk=>nomatch hk)
  | true =>
   simp only [if_true]
   have rb:=(zaaw hi).1
   have rk:=(zaaw hi).2
   have hk:(zaac r.2.ts).kind≠11:=by rw [rk]; decide
   have r24:=hd rb
   have gt:=(RI.refl h.ok h.bad).take hk
   have TI:XInv all (zaaB r.2):=h.of_RI r24 gt
   have tl:(zaaB r.2).ts.length+1=r.2.ts.length:=zabk h.ok hk
   have hx:=x_lv (s:=zaaB r.2) rb (ih .part (zaaB r.2) TI rb r24 (by show _+3<=_; omega))
   have gq:=gt.trans rb (zadq f .part (zaaB r.2) TI.ok TI.bad)
   have ql:(RP f .part (zaaB r.2)).2.ts.length<=(zaaB r.2).ts.length:=(zadq f .part (zaaB r.2) TI.ok TI.bad).suf.length_le
   rw [show plc all (zaaB r.2)=plc all r.2+1 from zagp h hk] at hx
   generalize RP f .part (zaaB r.2)=q at hx gq ql ⊢
   rw [show kmT (zaac r.2.ts).kind=4 from by rw [rk]; rfl]
   have gz:RI 0 0 r.2 (addR ⟨4,(zaac r.2.ts).at_,0,ByteArray.empty,[r.1,q.1]⟩ q.2).2:=gq.add _
   have zI:=h.of_RI r24 gz
   have qI:=h.of_RI r24 gq
   have hn:=ihn (addR ⟨4,(zaac r.2.ts).at_,0,ByteArray.empty,[r.1,q.1]⟩ q.2) zI (fun hb=>by have:=gz.dn hb; omega) (by show q.2.ts.length<=n; omega) (by show 5*q.2.ts.length<=f; omega)
   generalize zabU (RP f .part) kmT (isR 9) n (addR ⟨4,(zaac r.2.ts).at_,0,ByteArray.empty,[r.1,q.1]⟩ q.2)=R at hn ⊢
   rw [zaol] at hn
   have lm:(q.2.out.map xE).length=q.2.out.length:=List.length_map ..
   have hn:BL zaaU [xArg,i0 (q.2.out.length:Int)] _ _:=hn
   rw [<-lm] at hn
   have z:gLT9 (Orc.t Orc.z) True _ _ _ _ _ _ _ _ _ _ _ _ _ _ _ _ _ _:=(zauK True (all.map encT) (plc all r.2) r.2.deep (r.2.out.map xE) r.1 (plc all q.2) q.2.deep (q.2.out.map xE) (badE q.2) (badP q.2) q.1 (zaac r.2.ts).at_ R.1 (plc all R.2) R.2.deep (R.2.out.map xE) (badE R.2) (badP R.2)).mpr ⟨(),⟨trivial, .refl _,rfl⟩,rfl,zabJ h _ rfl,x_in h,(),⟨trivial, .refl _,rfl⟩,(),⟨trivial,zadM all h 4 _,rfl⟩,(),⟨trivial, .refl _,rfl⟩,rfl, .refl _, .rfl⟩
   rw [zaby rb]
   exact fin (((zabg.add (con1 (zafd h rb hi))).add (con1 (f:=zaaR) hx)).add (con1 (zahh qI 4 (zaac r.2.ts).at_ [r.1,q.1]))) rfl (fun _=>hn) z
attribute [local irreducible] runF in
set_option maxRecDepth 100000 in
theorem zaoj {f:Nat}{all:List Tk}(ih:IH all f){s:RS}(h:XInv all s)(hb:s.bad=none)(hd:s.deep<=24)(hf:5*s.ts.length+4<=f+1):LvOk all (f+1) .term s:=by
 unfold LvOk
 rw [zaby hb,RP]
 have ha:=x_lv hb (ih .part s h hb hd (by show _+3<=_; omega))
 have ga:=zadq f .part s h.ok h.bad
 generalize RP f .part s=A at ha ga ⊢
 have al:A.2.ts.length<=s.ts.length:=ga.suf.length_le
 have hl:=zawf ih f A (h.of_RI hd ga) (fun hb=>by have:=ga.dn hb; omega) (by omega) (by omega)
 generalize zabU (RP f .part) kmT (isR 9) f A=R at hl ⊢
 have q:gFT _ _ _ _ _ _ _ _ _ _ _ _ _ _ _ _ _:=(zaw7 (all.map encT) (plc all s) s.deep (s.out.map xE) (plc all A.2) A.2.deep (A.2.out.map xE) (badE A.2) (badP A.2) A.1 R.1 (plc all R.2) R.2.deep (R.2.out.map xE) (badE R.2) (badP R.2)).mpr ⟨(),⟨trivial, .refl _,rfl⟩,(),⟨trivial, .refl _,rfl⟩, .refl _, .rfl⟩
 have hX:=(zabg.add (con1 (f:=zaaR) ha)).addLp (fnOk zaaU (by kernel_rfl)) (show (fn zaaU).body=some (code zaaU) by kernel_rfl) (by kernel_rfl)
  (Spl.ok (L:=Lp1 [0,3] [] (fun _=>[3]) True [xArg,i0 A.1] (xS 0 all A.2) (exX R.1 (xS 1 all R.2) [1048577,1048578])) (l:=[⟨Unit,fun _=>True,fun _=>[xArg,i0 A.1],fun _=>xS 0 all A.2,fun _=>exX R.1 (xS 1 all R.2) [1048577,1048578]⟩]) rfl (show ([0,3]:List Nat).Nodup by decide) fun s' hs' i _=>by obtain rfl:=List.mem_singleton.1 hs'; exact hl)
 exact zadS (d:=14) (hX.ask askX) (f:=zaaU) (fn:=fn zaaU) (code:=code zaaU) (fnOk zaaU (by kernel_rfl)) (by kernel_rfl) (by kernel_rfl) q
attribute [local irreducible] runL in
set_option maxRecDepth 100000 in
theorem zawi {f:Nat}{all:List Tk}(ih:IH all f):∀ (n:Nat) (r:Nat × RS),XInv all r.2->(r.2.bad=none->r.2.deep<=24)->r.2.ts.length<=n->5*r.2.ts.length<=f ->
  BL zaan [xArg,i0 r.1] (xS 0 all r.2) (exX (zabU (RP f .term) kmE isE n r).1 (xS 1 all (zabU (RP f .term) kmE isE n r).2) [1048577,1048578]):=by
 have fin:∀ {X:WX} (hX:X.Sound) (hp:X.px=X0) {os:Orc} {P:Prop} {v':Int} {σ':Hp} {r':Ex × Back} {fc:List Nat} {v:Int} {σ:Hp} {r:Ex × Back},(P->BL zaan [xArg,i0 v'] σ' r')->gXL (XQn X zaan [22,24]) zaan os P v' σ' r' fc v σ r->BL zaan [xArg,i0 v] σ r:=by
  intro X hX hp os P v' σ' r' fc v σ r hi g
  have hP:X.px.P=Tryz.prog:=by rw [hp]; rfl
  have hg:X.px.gl=gl0:=by rw [hp]; rfl
  have:=zacD (X:=XQn X zaan [22,24]) ((hX.ask askX).askAt zaan _) (f:=zaan) (fn:=fn zaan) (code:=code zaan) (by show X.px.P.funcs[zaan]?=_; rw [hP]; exact fnOk zaan (by kernel_rfl)) (by kernel_rfl) (by decide) (fun p=>by show zadp X.px.P X.px.gl _ _ _ _ _ _ _; rw [hP,hg]; exact hi p) g
  show zadp Tryz.prog gl0 _ _ _ _ _ _ _; rw [<-hg,<-hP]; exact this
 intro n
 induction n with
 | zero =>
  intro r h hd hl hf
  have hne:=zakM h.ok
  cases hts:r.2.ts with
  | nil=>exact absurd hts hne
  | cons t u=>rw [hts] at hl; simp at hl
 | succ n ihn =>
  intro r h hd hl hf
  rw [zabU]
  cases hi7:isR 7 r.2 with
  | false =>
   cases hi8:isR 8 r.2 with
   | false =>
    have hE:isE r.2=false:=by unfold isE; rw [hi7,hi8]; rfl
    rw [hE]
    simp only [Bool.false_eq_true,if_false]
    have q:gLEE zaze False _ _ _ _ _ _ _:=(zauL False (all.map encT) (plc all r.2) r.2.deep (r.2.out.map xE) (badE r.2) (badP r.2) r.1).mpr ⟨(),⟨trivial, .refl _,rfl⟩,rfl,rfl,(),⟨trivial, .refl _,rfl⟩,rfl,rfl, .refl _, .rfl⟩
    exact zaxH (fin (zabg.add (conC (zaqJ h hi7) (con1 (zaqJ h hi8)))) rfl (fun c=>c.elim) q) (fun k hk=>nomatch hk)
   | true =>
    have hE:isE r.2=true:=by unfold isE; rw [hi7,hi8]; rfl
    rw [hE]
    simp only [if_true]
    have rb:=(zaaw hi8).1
    have rk:=(zaaw hi8).2
    have hk:(zaac r.2.ts).kind≠11:=by rw [rk]; decide
    have r24:=hd rb
    have gt:=(RI.refl h.ok h.bad).take hk
    have TI:XInv all (zaaB r.2):=h.of_RI r24 gt
    have tl:(zaaB r.2).ts.length+1=r.2.ts.length:=zabk h.ok hk
    have hx:=x_lv (s:=zaaB r.2) rb (ih .term (zaaB r.2) TI rb r24 (by show _+4<=_; omega))
    have gq:=gt.trans rb (zadq f .term (zaaB r.2) TI.ok TI.bad)
    have ql:(RP f .term (zaaB r.2)).2.ts.length<=(zaaB r.2).ts.length:=(zadq f .term (zaaB r.2) TI.ok TI.bad).suf.length_le
    rw [show plc all (zaaB r.2)=plc all r.2+1 from zagp h hk] at hx
    generalize RP f .term (zaaB r.2)=q at hx gq ql ⊢
    rw [show kmE (zaac r.2.ts).kind=3 from by rw [rk]; rfl]
    have gz:RI 0 0 r.2 (addR ⟨3,(zaac r.2.ts).at_,0,ByteArray.empty,[r.1,q.1]⟩ q.2).2:=gq.add _
    have zI:=h.of_RI r24 gz
    have qI:=h.of_RI r24 gq
    have hn:=ihn (addR ⟨3,(zaac r.2.ts).at_,0,ByteArray.empty,[r.1,q.1]⟩ q.2) zI (fun hb=>by have:=gz.dn hb; omega) (by show q.2.ts.length<=n; omega) (by show 5*q.2.ts.length<=f; omega)
    generalize zabU (RP f .term) kmE isE n (addR ⟨3,(zaac r.2.ts).at_,0,ByteArray.empty,[r.1,q.1]⟩ q.2)=R at hn ⊢
    rw [zaol] at hn
    have lm:(q.2.out.map xE).length=q.2.out.length:=List.length_map ..
    have hn:BL zaan [xArg,i0 (q.2.out.length:Int)] _ _:=hn
    rw [<-lm] at hn
    have z:gLE8 zazf True _ _ _ _ _ _ _ _ _ _ _ _ _ _ _ _ _ _:=(zauM True (all.map encT) (plc all r.2) r.2.deep (r.2.out.map xE) r.1 (plc all q.2) q.2.deep (q.2.out.map xE) (badE q.2) (badP q.2) q.1 (zaac r.2.ts).at_ R.1 (plc all R.2) R.2.deep (R.2.out.map xE) (badE R.2) (badP R.2)).mpr ⟨(),⟨trivial, .refl _,rfl⟩,rfl,rfl,(),⟨trivial, .refl _,rfl⟩,rfl,zabJ h _ rfl,(),⟨trivial, .refl _,rfl⟩,rfl,x_in h,(),⟨trivial, .refl _,rfl⟩,(),⟨trivial,zadM all h 3 _,rfl⟩,(),⟨trivial, .refl _,rfl⟩,rfl, .refl _, .rfl⟩
    rw [zaby rb]
    exact fin (((zabg.add (conC (zafd h rb hi7) (con1 (zafd h rb hi8)))).add (con1 (f:=zaaU) hx)).add (con1 (zahh qI 3 (zaac r.2.ts).at_ [r.1,q.1]))) rfl (fun _=>hn) z
  | true =>
   have hE:isE r.2=true:=by unfold isE; rw [hi7]; rfl
   rw [hE]
   simp only [if_true]
   have hi8:isR 8 r.2=false:=by unfold isR; rw [(zaaw hi7).2]; simp
   have rb:=(zaaw hi7).1
   have rk:=(zaaw hi7).2
   have hk:(zaac r.2.ts).kind≠11:=by rw [rk]; decide
   have r24:=hd rb
   have gt:=(RI.refl h.ok h.bad).take hk
   have TI:XInv all (zaaB r.2):=h.of_RI r24 gt
   have tl:(zaaB r.2).ts.length+1=r.2.ts.length:=zabk h.ok hk
   have hx:=x_lv (s:=zaaB r.2) rb (ih .term (zaaB r.2) TI rb r24 (by show _+4<=_; omega))
   have gq:=gt.trans rb (zadq f .term (zaaB r.2) TI.ok TI.bad)
   have ql:(RP f .term (zaaB r.2)).2.ts.length<=(zaaB r.2).ts.length:=(zadq f .term (zaaB r.2) TI.ok TI.bad).suf.length_le
   rw [show plc all (zaaB r.2)=plc all r.2+1 from zagp h hk] at hx
   generalize RP f .term (zaaB r.2)=q at hx gq ql ⊢
   rw [show kmE (zaac r.2.ts).kind=2 from by rw [rk]; rfl]
   have gz:RI 0 0 r.2 (addR ⟨2,(zaac r.2.ts).at_,0,ByteArray.empty,[r.1,q.1]⟩ q.2).2:=gq.add _
   have zI:=h.of_RI r24 gz
   have qI:=h.of_RI r24 gq
   have hn:=ihn (addR ⟨2,(zaac r.2.ts).at_,0,ByteArray.empty,[r.1,q.1]⟩ q.2) zI (fun hb=>by have:=gz.dn hb; omega) (by show q.2.ts.length<=n; omega) (by show 5*q.2.ts.length<=f; omega)
   generalize zabU (RP f .term) kmE isE n (addR ⟨2,(zaac r.2.ts).at_,0,ByteArray.empty,[r.1,q.1]⟩ q.2)=R at hn ⊢
   rw [zaol] at hn
   have lm:(q.2.out.map xE).length=q.2.out.length:=List.length_map ..
   have hn:BL zaan [xArg,i0 (q.2.out.length:Int)] _ _:=hn
   rw [<-lm] at hn
   have z:gLE7 zazg True _ _ _ _ _ _ _ _ _ _ _ _ _ _ _ _ _ _:=(zauN True (all.map encT) (plc all r.2) r.2.deep (r.2.out.map xE) r.1 (plc all q.2) q.2.deep (q.2.out.map xE) (badE q.2) (badP q.2) q.1 (zaac r.2.ts).at_ R.1 (plc all R.2) R.2.deep (R.2.out.map xE) (badE R.2) (badP R.2)).mpr ⟨(),⟨trivial, .refl _,rfl⟩,rfl,rfl,rfl,zabJ h _ rfl,(),⟨trivial, .refl _,rfl⟩,rfl,x_in h,(),⟨trivial, .refl _,rfl⟩,(),⟨trivial,zadM all h 2 _,rfl⟩,(),⟨trivial, .refl _,rfl⟩,rfl, .refl _, .rfl⟩
   rw [zaby rb]
   exact fin (((zabg.add (conC (zafd h rb hi7) (con1 (zafd h rb hi8)))).add (con1 (f:=zaaU) hx)).add (con1 (zahh qI 2 (zaac r.2.ts).at_ [r.1,q.1]))) rfl (fun _=>hn) z
attribute [local irreducible] runF in
set_option maxRecDepth 100000 in
theorem zaop {f:Nat}{all:List Tk}(ih:IH all f){s:RS}(h:XInv all s)(hb:s.bad=none)(hd:s.deep<=24)(hf:5*s.ts.length+5<=f+1):LvOk all (f+1) .expr s:=by
 unfold LvOk
 rw [zaby hb,RP]
 have ha:=x_lv hb (ih .term s h hb hd (by show _+4<=_; omega))
 have ga:=zadq f .term s h.ok h.bad
 generalize RP f .term s=A at ha ga ⊢
 have al:A.2.ts.length<=s.ts.length:=ga.suf.length_le
 have hl:=zawi ih f A (h.of_RI hd ga) (fun hb=>by have:=ga.dn hb; omega) (by omega) (by omega)
 generalize zabU (RP f .term) kmE isE f A=R at hl ⊢
 have q:gFE _ _ _ _ _ _ _ _ _ _ _ _ _ _ _ _ _:=(zaw8 (all.map encT) (plc all s) s.deep (s.out.map xE) (plc all A.2) A.2.deep (A.2.out.map xE) (badE A.2) (badP A.2) A.1 R.1 (plc all R.2) R.2.deep (R.2.out.map xE) (badE R.2) (badP R.2)).mpr ⟨(),⟨trivial, .refl _,rfl⟩,(),⟨trivial, .refl _,rfl⟩, .refl _, .rfl⟩
 have hX:=(zabg.add (con1 (f:=zaaU) ha)).addLp (fnOk zaan (by kernel_rfl)) (show (fn zaan).body=some (code zaan) by kernel_rfl) (by kernel_rfl)
  (Spl.ok (L:=Lp1 [0,3] [] (fun _=>[3]) True [xArg,i0 A.1] (xS 0 all A.2) (exX R.1 (xS 1 all R.2) [1048577,1048578])) (l:=[⟨Unit,fun _=>True,fun _=>[xArg,i0 A.1],fun _=>xS 0 all A.2,fun _=>exX R.1 (xS 1 all R.2) [1048577,1048578]⟩]) rfl (show ([0,3]:List Nat).Nodup by decide) fun s' hs' i _=>by obtain rfl:=List.mem_singleton.1 hs'; exact hl)
 exact zadS (d:=14) (hX.ask askX) (f:=zaan) (fn:=fn zaan) (code:=code zaan) (fnOk zaan (by kernel_rfl)) (by kernel_rfl) (by kernel_rfl) q
theorem zawg {all:List Tk}(hsz:∀ t∈all,t.text.size<=1000000):∀ f:Nat,IH all f:=by
 intro f
 induction f with
 | zero=>intro lv s _ _ _ hf; cases lv <;> (simp [offL] at hf)
 | succ f ih =>
  intro lv s h hb hd hf
  cases lv with
  | expr=>exact zaop ih h hb hd hf
  | term=>exact zaoj ih h hb hd hf
  | part=>exact zaom ih h hb hd hf
  | ranged=>exact zaok ih h hb hd hf
  | atom=>exact zaoq hsz ih h hb hd hf
end
end Go.Proofs.YtpofhijgccocpaaGreatDoor
end
section
namespace Go.Proofs.YtpofhijgccocpaaGreatDoor
open Go.AS Go.TP
noncomputable section
abbrev jw (s:ByteArray)(ys:List AV)(i n:Int):List AV:=[s0 s, .lit (.slice none 0 0),i0 0,i0 0, .slc 1048577 [0,0] 0 ys.length,i0 i,i0 n]
abbrev jwO (s:ByteArray)(ys:List AV)(i n:Int):Ex × Back:=(.exit 3,⟨.tup (jw s ys i n),zabn ys,[]⟩)
abbrev lpJW (P:Prop)(s:ByteArray)(ys:List AV)(i n w:Int):Lp:=Lp1 [0,2,3,4,5,6,8] [] (fun _=>[0,2,3,4,5,6,8]) P (jw s ys i n) (zabn ys) (jwO s ys i w)
def rJW (os:Orc)(P:Prop)(s:ByteArray)(ys:List AV)(i n w:Int):Prop:=runL (XJ.ask [zabd]) 8 zabd (fn zabd).ntmps (zabw (code zabd) 3) (lpJW P s ys i (n+1) w) (lpJW P s ys i (n+1) w) os 0 [] (jw s ys i n) (zabn ys) (jwO s ys i w)
def zae6 (s:ByteArray)(ys:List AV)(i:Int):List AV:=[s0 s, .lit (.slice none 0 0),i0 0,i0 0, .slc 1048577 [0,0] 0 ys.length,i0 i]
def jxR (c:Nat)(ex:Ex)(s:ByteArray)(e j:Int)(ys:List AV):Ex × Back:=(ex,⟨.tup [s0 s, .lit (.slice none 0 0),i0 e,i0 j, .slc 1048577 [0,c] 0 ys.length],hpL [(1048577,⟨[0,c], .row true 3 ys⟩)],[1048577]⟩)
abbrev lpJX (Q:Int->List AV->Prop)(s:ByteArray)(r:Ex × Back):Lp:=⟨[0,2,3,4,5,6],[(5,3)],fun _=>[0,2,3,4,5],Spl.con [⟨Int × List AV,fun q=>Q q.1 q.2,fun q=>zae6 s q.2 q.1,fun q=>zabn q.2,fun _=>r⟩]⟩
def XJX (s:ByteArray)(ys:List AV)(i w:Int):WX:=XJ.addLp zabd 3 (lpJW True s ys i 1 w)
def rJX (X:WX)(os:Orc)(fc:List Nat)(Q:Int->List AV->Prop)(s:ByteArray)(ys:List AV)(i:Int)(r r':Ex × Back):Prop :=
 runL (X.ask [zabd]) 10 zabd (fn zabd).ntmps (zabw (code zabd) 0) (lpJX Q s r') (lpJX Q s r') os 0 fc (zae6 s ys i) (zabn ys) r
def rJXE (os:Orc)(Q:Int->List AV->Prop)(s:ByteArray)(ys:List AV)(i:Int):Prop:=rJX XJ os [] Q s ys i (jxR 0 (.exit 0) s 0 0 ys) (jxR 0 (.exit 0) s 0 0 ys)
def rJXX (os:Orc)(Q:Int->List AV->Prop)(s:ByteArray)(ys:List AV)(i:Int):Prop:=rJX XJ os [] Q s ys i (jxR 0 .ret s 15 i ys) (jxR 0 .ret s 15 i ys)
def rJXA (X:WX)(os:Orc)(Q:Int->List AV->Prop)(ex:Ex)(s:ByteArray)(e j:Int)(ys zs:List AV)(i:Int):Prop:=rJX X os [1048577] Q s ys i (jxR 1 ex s e j zs) (jxR 1 ex s e j zs)
def zaAs (os:Orc)(Q:Int->List AV->Prop)(s:ByteArray)(ys:List AV)(i:Int):Prop:=rJXX os Q s ys i
def zaAr (os:Orc)(Q:Int->List AV->Prop)(s:ByteArray)(ys:List AV)(i:Int):Prop:=rJXX os Q s ys i
def zaAq (os:Orc)(Q:Int->List AV->Prop)(s:ByteArray)(ys:List AV)(i:Int):Prop:=rJXX os Q s ys i
def zaAp (os:Orc)(Q:Int->List AV->Prop)(s:ByteArray)(ys:List AV)(i:Int):Prop:=rJXX os Q s ys i
def rJXB (os:Orc)(Q:Int->List AV->Prop)(ex:Ex)(s:ByteArray)(e j:Int)(ys zs:List AV)(i:Int):Prop:=rJXA XJ os Q ex s e j ys zs i
def rJXR (os:Orc)(Q:Int->List AV->Prop)(ex:Ex)(s:ByteArray)(e j:Int)(ys zs:List AV)(i:Int):Prop:=rJXA XJ os Q ex s e j ys zs i
def rJXD (os:Orc)(Q:Int->List AV->Prop)(ex:Ex)(s:ByteArray)(e j:Int)(ys zs:List AV)(i:Int):Prop:=rJXA XJ os Q ex s e j ys zs i
def zayl (os:Orc)(Q:Int->List AV->Prop)(ex:Ex)(s:ByteArray)(e j:Int)(ys zs:List AV)(i:Int):Prop:=rJXA XJ os Q ex s e j ys zs i
def zayk (os:Orc)(Q:Int->List AV->Prop)(ex:Ex)(s:ByteArray)(e j:Int)(ys zs:List AV)(i:Int):Prop:=rJXA XJ os Q ex s e j ys zs i
def rJXW (os:Orc)(Q:Int->List AV->Prop)(ex:Ex)(s:ByteArray)(e j:Int)(ys zs:List AV)(i w:Int):Prop:=rJXA (XJX s ys i w) os Q ex s e j ys zs i
def gJX (os:Orc)(s:ByteArray)(r:Ex × Back)(x:AV):Prop:=runF ((XJ.addLp zabd 0 (lpJX (fun i ys=>i=0/\ys=[]) s r)).ask [zabd]) 10 zabd (fn zabd) (code zabd) os 1 [] [s0 s] .nil ⟨x, .nil,[]⟩
def gJXL (os:Orc)(s:ByteArray):Prop:=runF (XJ.ask [zabd]) 10 zabd (fn zabd) (code zabd) os 1 [] [s0 s] .nil ⟨.tup [.lst false 3 [],i0 5,i0 0], .nil,[]⟩
def gJXA (os:Orc)(s:ByteArray)(zs:List AV):Prop:=gJX os s (jxR 1 (.exit 0) s 0 0 zs) (.tup [.lst false 3 (zs++[.agg [i0 11,i0 s.size,s0 ByteArray.empty]]),i0 0,i0 0])
def gJXC (os:Orc)(s:ByteArray)(zs:List AV)(j:Int):Prop:=gJX os s (jxR 1 .ret s 15 j zs) (.tup [.lst false 3 [],i0 15,i0 j])
end
end Go.Proofs.YtpofhijgccocpaaGreatDoor
end
section
namespace Go.Proofs.YtpofhijgccocpaaGreatDoor
open Go Go.AS Go.TP
noncomputable abbrev zabi (s:ByteArray)(i:Int):=(↑(zaaa s (Int.toNat i)):Int)
noncomputable abbrev zayo (s:ByteArray)(i:Int):=s0 (ByteArray.extract s (Int.toNat (Option.getD (some i) (0:Int))) (Int.toNat (Option.getD (some (i+2)) (↑(ByteArray.size s):Int))))
noncomputable abbrev zanI (s:ByteArray) (i:Int) (ys:List AV):=(AV.tup [s0 s,AV.lit (Value.slice none 0 0),i0 15,i0 i,AV.slc 1048577 [0,0] 0 (List.length ys)])
noncomputable abbrev zaqP (i1:Nat) (s:ByteArray) (i:Int):=(i1<256/\Wks [AV.lit (Value.int IntKind.u8 (zabi s i))] [AV.lit (Value.int IntKind.u8 (↑i1:Int))]/\hpL []=hpL [])
def orJW:Orc:=Orc.s (HT (Orc.t (Orc.s Orc.z Orc.z))) (HF (Orc.f (Orc.f Orc.z)))
theorem zaww (P:Prop)(s:ByteArray)(ys:List AV)(i n w:Int):rJW orJW P s ys i n w=(let z1:=(AV.tup [s0 s,AV.lit (Value.slice none 0 0),i0 0,i0 0,AV.slc 1048577 [0,0] 0 (List.length ys),i0 i,i0 w]); let z2:=[eR 1048577 [0,0] 3 ys]; let z3:=AV.slc 1048577 [0,0] 0 (List.length ys); let z4:=AV.lit (Value.slice none 0 0); let z5:=(↑(ByteArray.size s):Int); let z6:=(AV.tup [s0 s,z4,i0 0,i0 0,z3,i0 i,i0 n]); let z7:=[s0 s,z4,i0 0,i0 0,z3,i0 i,i0 (n+1)]; inR IntKind.i64 (i+n)=true/\(decide (i+n<z5)=true->Yt (Yt (Yt (inR IntKind.i64 (i+n)=true/\Yt (decide ((0:Int)<=i+n/\i+n<z5)=true/\Yt (∃ (i1:Nat),(i1<256/\Wks [AV.lit (Value.int IntKind.u8 (↑(zaaa s (Int.toNat (i+n))):Int))] [AV.lit (Value.int IntKind.u8 (↑i1:Int))]/\hpL []=hpL [])/\(zaaI i1=true->inR IntKind.i64 (n+1)=true/\∃ (_:Unit),(P/\Wks z7 z7/\hpL z2=hpL z2)/\Ex.exit 3=Ex.exit 3/\Wk z1 z1/\SameH (hpL z2) (hpL z2))/\(zaaI i1=false->Ex.exit 3=Ex.exit 3/\Wk z6 z1/\SameH (hpL z2) (hpL z2))))))))/\(decide (i+n<z5)=false->Nf4 (Nf (Nf (Ex.exit 3=Ex.exit 3/\Wk z6 z1/\SameH (hpL z2) (hpL z2)))))):=by kernel_rfl
theorem zanE (Q:Int->List AV->Prop)(s:ByteArray)(ys:List AV)(i:Int):rJXE (Orc.f Orc.z) Q s ys i=(let z1:=(AV.tup [s0 s,AV.lit (Value.slice none 0 0),i0 0,i0 0,AV.slc 1048577 [0,0] 0 (List.length ys)]); decide (i<(↑(ByteArray.size s):Int))=false/\Ex.exit 0=Ex.exit 0/\Wk z1 z1/\SameH (hpL [eR 1048577 [0,0] 3 ys]) (hpL [eR 1048577 [0,0] 3 ys])):=by kernel_rfl
theorem zauO (s:ByteArray):gJXL (Orc.t Orc.z) s=(decide ((↑(ByteArray.size s):Int)>600)=true/\Wk (AV.tup [AV.lit (Value.slice none 0 0),i0 5,i0 0]) (AV.tup [AV.lst false 3 [],i0 5,i0 0])/\SameH (hpL []) (hpL [])):=by kernel_rfl
theorem zauQ (s:ByteArray)(zs:List AV):gJXA (Orc.f Orc.z) s zs=(let z1:=(↑(ByteArray.size s):Int); let z2:=(List.length zs); let z3:=(List.drop 0 zs); decide (z1>600)=false/\∃ (i1:Int × List AV),((Prod.fst i1=0/\Prod.snd i1=[])/\Wks [s0 s,AV.lit (Value.slice none 0 0),i0 0,i0 0,AV.slc 1048577 [0,0] 0 0,i0 0] [s0 s,AV.lit (Value.slice none 0 0),i0 0,i0 0,AV.slc 1048577 [0,0] 0 (List.length (Prod.snd i1)),i0 (Prod.fst i1)]/\hpL [eR 1048577 [0,0] 3 []]=hpL [eR 1048577 [0,0] 3 (Prod.snd i1)])/\(true&&(Nat.beq 3 3&&Nat.ble (0+List.length zs) z2)&&(Nat.beq 3 3&&decide (List.length (List.take z2 z3++[AV.agg [i0 11,i0 z1,s0 ⟨⟨[]⟩⟩]])*32<=140737488355328/\List.length (List.take z2 z3++[AV.agg [i0 11,i0 z1,s0 ⟨⟨[]⟩⟩]])<=1152921504606846976)))=true/\0+List.length (List.take z2 z3++[AV.agg [i0 11,i0 z1,s0 ⟨⟨[]⟩⟩]])<=List.length (List.take z2 z3++[AV.agg [i0 11,i0 z1,s0 ⟨⟨[]⟩⟩]])/\Wk (AV.tup [AV.lst false 3 (List.take (List.length (List.take z2 z3++[AV.agg [i0 11,i0 z1,s0 ⟨⟨[]⟩⟩]])) (List.drop 0 (List.take z2 z3++[AV.agg [i0 11,i0 z1,s0 ⟨⟨[]⟩⟩]]))),i0 0,i0 0]) (AV.tup [AV.lst false 3 (zs++[AV.agg [i0 11,i0 z1,s0 ByteArray.empty]]),i0 0,i0 0])/\SameH (hpL []) (hpL [])):=by kernel_rfl
theorem zauP (s:ByteArray)(zs:List AV)(j:Int):gJXC (Orc.f Orc.z) s zs j=(let z1:=AV.lit (Value.slice none 0 0); decide ((↑(ByteArray.size s):Int)>600)=false/\∃ (i1:Int × List AV),((Prod.fst i1=0/\Prod.snd i1=[])/\Wks [s0 s,z1,i0 0,i0 0,AV.slc 1048577 [0,0] 0 0,i0 0] [s0 s,z1,i0 0,i0 0,AV.slc 1048577 [0,0] 0 (List.length (Prod.snd i1)),i0 (Prod.fst i1)]/\hpL [eR 1048577 [0,0] 3 []]=hpL [eR 1048577 [0,0] 3 (Prod.snd i1)])/\Wk (AV.tup [z1,i0 15,i0 j]) (AV.tup [AV.lst false 3 [],i0 15,i0 j])/\SameH (hpL []) (hpL [])):=by kernel_rfl
def zayt:Orc:=Orc.t (Orc.s (Orc.t (Orc.t (Orc.t (Orc.t Orc.z)))) (Orc.f (Orc.s (Orc.t (Orc.t Orc.z)) (Orc.f (Orc.t Orc.z)))))
theorem zarV (Q:Int->List AV->Prop)(ex:Ex)(s:ByteArray)(e j:Int)(ys zs:List AV)(i:Int):rJXB zayt Q ex s e j ys zs i=(let z1:=(AV.tup [s0 s,AV.lit (Value.slice none 0 0),i0 e,i0 j,AV.slc 1048577 [0,1] 0 (List.length zs)]); let z2:=[s0 s,AV.lit (Value.slice none 0 0),i0 0,i0 0,AV.slc 1048577 [0,0] 0 (List.length ys),i0 (i+1)]; let z3:=(hpL [eR 1048577 [0,1] 3 zs]); let z4:=(↑(zaaa s (Int.toNat i)):Int); let z5:=AV.lit (Value.slice none 0 0); let z6:=[eR 1048577 [0,0] 3 ys]; decide (i<(↑(ByteArray.size s):Int))=true/\decide ((0:Int)<=i/\i<(↑(ByteArray.size s):Int))=true/\((z4==32)=true->Yt4 (inR IntKind.i64 (i+1)=true/\∃ (i1:Int × List AV),(Q (Prod.fst i1) (Prod.snd i1)/\Wks z2 [s0 s,z5,i0 0,i0 0,AV.slc 1048577 [0,0] 0 (List.length (Prod.snd i1)),i0 (Prod.fst i1)]/\hpL z6=hpL [eR 1048577 [0,0] 3 (Prod.snd i1)])/\ex=ex/\Wk z1 z1/\SameH z3 z3))/\((z4==32)=false->Nf (((z4==9)=true->Yt (Yt (inR IntKind.i64 (i+1)=true/\∃ (i2:Int × List AV),(Q (Prod.fst i2) (Prod.snd i2)/\Wks z2 [s0 s,z5,i0 0,i0 0,AV.slc 1048577 [0,0] 0 (List.length (Prod.snd i2)),i0 (Prod.fst i2)]/\hpL z6=hpL [eR 1048577 [0,0] 3 (Prod.snd i2)])/\ex=ex/\Wk z1 z1/\SameH z3 z3)))/\((z4==9)=false->Nf ((z4==10)=true/\inR IntKind.i64 (i+1)=true/\∃ (i3:Int × List AV),(Q (Prod.fst i3) (Prod.snd i3)/\Wks z2 [s0 s,z5,i0 0,i0 0,AV.slc 1048577 [0,0] 0 (List.length (Prod.snd i3)),i0 (Prod.fst i3)]/\hpL z6=hpL [eR 1048577 [0,0] 3 (Prod.snd i3)])/\ex=ex/\Wk z1 z1/\SameH z3 z3))))):=by kernel_rfl
def zayq:Orc:=Orc.t (HF (Orc.f (Orc.t (Orc.s Orc.z (Orc.s Orc.z (Orc.s Orc.z (Orc.s Orc.z Orc.z)))))))
theorem zarP (Q:Int->List AV->Prop)(ex:Ex)(s:ByteArray)(e j:Int)(ys zs:List AV)(i w:Int):rJXW zayq Q ex s e j ys zs i w=(let z1:=(ByteArray.extract s (Int.toNat (Option.getD (some i) (0:Int))) (Int.toNat (Option.getD (some (i+w)) (↑(ByteArray.size s):Int)))); let z2:=((0:Int)<=Option.getD (some i) (0:Int)/\Option.getD (some i) (0:Int)<=Option.getD (some (i+w)) (↑(ByteArray.size s):Int)/\Option.getD (some (i+w)) (↑(ByteArray.size s):Int)<=(↑(ByteArray.size s):Int)/\false=false); let z3:=(AV.tup [s0 s,AV.lit (Value.slice none 0 0),i0 e,i0 j,AV.slc 1048577 [0,1] 0 (List.length zs)]); let z4:=(List.length ys); let z5:=AV.lit (Value.slice none 0 0); let z6:=(hpL [eR 1048577 [0,1] 3 zs]); let z7:=(List.drop 0 ys); let z8:=(Nat.beq 3 3&&Nat.ble (0+List.length ys) z4); let z9:=(List.take z4 z7++[AV.agg [i0 10,i0 i,s0 z1]]); let z10:=(List.take z4 z7++[AV.agg [i0 7,i0 i,s0 z1]]); let z11:=(List.take z4 z7++[AV.agg [i0 9,i0 i,s0 z1]]); let z12:=(List.take z4 z7++[AV.agg [i0 8,i0 i,s0 z1]]); let z13:=(List.take z4 z7++[AV.agg [i0 1,i0 i,s0 z1]]); let z14:=(↑(zaaa s (Int.toNat i)):Int); let z15:=[s0 s,z5,i0 0,i0 0,AV.slc 1048577 [0,0] 0 z4,i0 i,i0 1]; let z16:=(ByteArray.toList z1==ByteArray.toList zann); let z17:=(ByteArray.toList z1==ByteArray.toList bAnd); let z18:=(ByteArray.toList z1==ByteArray.toList bNot); let z19:=(ByteArray.toList z1==ByteArray.toList bOr); decide (i<(↑(ByteArray.size s):Int))=true/\decide ((0:Int)<=i/\i<(↑(ByteArray.size s):Int))=true/\(z14==32)=false/\Nf ((z14==9)=false/\Nf ((z14==10)=false/\∃ (i1:Nat),(i1<256/\Wks [AV.lit (Value.int IntKind.u8 z14)] [AV.lit (Value.int IntKind.u8 (↑i1:Int))]/\hpL []=hpL [])/\zaaI i1=true/\U1 z15 [eR 1048577 [0,0] 3 ys] (inR IntKind.i64 (i+w)=true/\decide z2=true/\(z19=true->inR IntKind.i64 (i+w)=true/\decide z2=true/\(true&&z8&&(Nat.beq 3 3&&decide (List.length z10*32<=140737488355328/\List.length z10<=1152921504606846976)))=true/\inR IntKind.i64 (i+w)=true/\∃ (i3:Int × List AV),(Q (Prod.fst i3) (Prod.snd i3)/\Wks [s0 s,z5,i0 0,i0 0,AV.slc 1048577 [0,0] 0 (List.length z10),i0 (i+w)] [s0 s,z5,i0 0,i0 0,AV.slc 1048577 [0,0] 0 (List.length (Prod.snd i3)),i0 (Prod.fst i3)]/\hpL [eR 1048577 [0,0] 3 z10]=hpL [eR 1048577 [0,0] 3 (Prod.snd i3)])/\ex=ex/\Wk z3 z3/\SameH z6 z6)/\(z19=false->(z17=true->inR IntKind.i64 (i+w)=true/\decide z2=true/\(true&&z8&&(Nat.beq 3 3&&decide (List.length z11*32<=140737488355328/\List.length z11<=1152921504606846976)))=true/\inR IntKind.i64 (i+w)=true/\∃ (i4:Int × List AV),(Q (Prod.fst i4) (Prod.snd i4)/\Wks [s0 s,z5,i0 0,i0 0,AV.slc 1048577 [0,0] 0 (List.length z11),i0 (i+w)] [s0 s,z5,i0 0,i0 0,AV.slc 1048577 [0,0] 0 (List.length (Prod.snd i4)),i0 (Prod.fst i4)]/\hpL [eR 1048577 [0,0] 3 z11]=hpL [eR 1048577 [0,0] 3 (Prod.snd i4)])/\ex=ex/\Wk z3 z3/\SameH z6 z6)/\(z17=false->(z18=true->inR IntKind.i64 (i+w)=true/\decide z2=true/\(true&&z8&&(Nat.beq 3 3&&decide (List.length z9*32<=140737488355328/\List.length z9<=1152921504606846976)))=true/\inR IntKind.i64 (i+w)=true/\∃ (i5:Int × List AV),(Q (Prod.fst i5) (Prod.snd i5)/\Wks [s0 s,z5,i0 0,i0 0,AV.slc 1048577 [0,0] 0 (List.length z9),i0 (i+w)] [s0 s,z5,i0 0,i0 0,AV.slc 1048577 [0,0] 0 (List.length (Prod.snd i5)),i0 (Prod.fst i5)]/\hpL [eR 1048577 [0,0] 3 z9]=hpL [eR 1048577 [0,0] 3 (Prod.snd i5)])/\ex=ex/\Wk z3 z3/\SameH z6 z6)/\(z18=false->(z16=true->inR IntKind.i64 (i+w)=true/\decide z2=true/\(true&&z8&&(Nat.beq 3 3&&decide (List.length z12*32<=140737488355328/\List.length z12<=1152921504606846976)))=true/\inR IntKind.i64 (i+w)=true/\∃ (i6:Int × List AV),(Q (Prod.fst i6) (Prod.snd i6)/\Wks [s0 s,z5,i0 0,i0 0,AV.slc 1048577 [0,0] 0 (List.length z12),i0 (i+w)] [s0 s,z5,i0 0,i0 0,AV.slc 1048577 [0,0] 0 (List.length (Prod.snd i6)),i0 (Prod.fst i6)]/\hpL [eR 1048577 [0,0] 3 z12]=hpL [eR 1048577 [0,0] 3 (Prod.snd i6)])/\ex=ex/\Wk z3 z3/\SameH z6 z6)/\(z16=false->inR IntKind.i64 (i+w)=true/\decide z2=true/\(true&&z8&&(Nat.beq 3 3&&decide (List.length z13*32<=140737488355328/\List.length z13<=1152921504606846976)))=true/\inR IntKind.i64 (i+w)=true/\∃ (i7:Int × List AV),(Q (Prod.fst i7) (Prod.snd i7)/\Wks [s0 s,z5,i0 0,i0 0,AV.slc 1048577 [0,0] 0 (List.length z13),i0 (i+w)] [s0 s,z5,i0 0,i0 0,AV.slc 1048577 [0,0] 0 (List.length (Prod.snd i7)),i0 (Prod.fst i7)]/\hpL [eR 1048577 [0,0] 3 z13]=hpL [eR 1048577 [0,0] 3 (Prod.snd i7)])/\ex=ex/\Wk z3 z3/\SameH z6 z6)))))))):=by kernel_rfl
def zayr:Orc:=Orc.t (HF (Orc.f (Orc.f (HT (Orc.t (Orc.t (Orc.t (Orc.t Orc.z))))))))
theorem zarR (Q:Int->List AV->Prop)(ex:Ex)(s:ByteArray)(e j:Int)(ys zs:List AV)(i:Int):rJXR zayr Q ex s e j ys zs i=(let z1:=(List.take (List.length ys) (List.drop 0 ys)++[AV.agg [i0 5,i0 i,(zayo s i)]]); let z2:=(↑(ByteArray.size s):Int); let z3:=(AV.tup [s0 s,AV.lit (Value.slice none 0 0),i0 e,i0 j,AV.slc 1048577 [0,1] 0 (List.length zs)]); decide (i<z2)=true/\decide ((0:Int)<=i/\i<z2)=true/\((zabi s i)==32)=false/\Nf (((zabi s i)==9)=false/\Nf (((zabi s i)==10)=false/\∃ (i1:Nat),(zaqP i1 s i)/\zaaI i1=false/\inR IntKind.i64 (i+1)=true/\decide (i+1<z2)=true/\Yt (((zabi s i)==58)=true/\Yt (Yt (inR IntKind.i64 (i+1)=true/\Yt (decide ((0:Int)<=i+1/\i+1<z2)=true/\Yt (((↑(zaaa s (Int.toNat (i+1))):Int)==58)=true/\inR IntKind.i64 (i+2)=true/\decide ((0:Int)<=Option.getD (some i) (0:Int)/\Option.getD (some i) (0:Int)<=Option.getD (some (i+2)) z2/\Option.getD (some (i+2)) z2<=z2/\false=false)=true/\(true&&(true&&Nat.ble (0+List.length ys) (List.length ys))&&(true&&decide (List.length z1*32<=140737488355328/\List.length z1<=1152921504606846976)))=true/\inR IntKind.i64 (i+2)=true/\∃ (i2:Int × List AV),(Q (Prod.fst i2) (Prod.snd i2)/\Wks [s0 s,AV.lit (Value.slice none 0 0),i0 0,i0 0,AV.slc 1048577 [0,0] 0 (List.length z1),i0 (i+2)] [s0 s,AV.lit (Value.slice none 0 0),i0 0,i0 0,AV.slc 1048577 [0,0] 0 (List.length (Prod.snd i2)),i0 (Prod.fst i2)]/\hpL [eR 1048577 [0,0] 3 z1]=hpL [eR 1048577 [0,0] 3 (Prod.snd i2)])/\ex=ex/\Wk z3 z3/\SameH (hpL [eR 1048577 [0,1] 3 zs]) (hpL [eR 1048577 [0,1] 3 zs]))))))))):=by kernel_rfl
def zays:Orc:=Orc.t (HF (Orc.f (Orc.f (Orc.t (Orc.t (HF (Orc.f (Orc.f (HT (Orc.t (Orc.t (Orc.t (Orc.t Orc.z)))))))))))))
theorem zarT (Q:Int->List AV->Prop)(ex:Ex)(s:ByteArray)(e j:Int)(ys zs:List AV)(i:Int):rJXD zays Q ex s e j ys zs i=(let z1:=(List.take (List.length ys) (List.drop 0 ys)++[AV.agg [i0 6,i0 i,(zayo s i)]]); let z2:=(↑(ByteArray.size s):Int); let z3:=(AV.tup [s0 s,AV.lit (Value.slice none 0 0),i0 e,i0 j,AV.slc 1048577 [0,1] 0 (List.length zs)]); decide (i<z2)=true/\decide ((0:Int)<=i/\i<z2)=true/\((zabi s i)==32)=false/\Nf (((zabi s i)==9)=false/\Nf (((zabi s i)==10)=false/\∃ (i1:Nat),(zaqP i1 s i)/\zaaI i1=false/\inR IntKind.i64 (i+1)=true/\decide (i+1<z2)=true/\Yt (((zabi s i)==58)=false/\Nf4 (Nf (inR IntKind.i64 (i+1)=true/\decide (i+1<z2)=true/\Yt (((zabi s i)==46)=true/\Yt (Yt (inR IntKind.i64 (i+1)=true/\Yt (decide ((0:Int)<=i+1/\i+1<z2)=true/\Yt (((↑(zaaa s (Int.toNat (i+1))):Int)==46)=true/\inR IntKind.i64 (i+2)=true/\decide ((0:Int)<=Option.getD (some i) (0:Int)/\Option.getD (some i) (0:Int)<=Option.getD (some (i+2)) z2/\Option.getD (some (i+2)) z2<=z2/\false=false)=true/\(true&&(true&&Nat.ble (0+List.length ys) (List.length ys))&&(true&&decide (List.length z1*32<=140737488355328/\List.length z1<=1152921504606846976)))=true/\inR IntKind.i64 (i+2)=true/\∃ (i2:Int × List AV),(Q (Prod.fst i2) (Prod.snd i2)/\Wks [s0 s,AV.lit (Value.slice none 0 0),i0 0,i0 0,AV.slc 1048577 [0,0] 0 (List.length z1),i0 (i+2)] [s0 s,AV.lit (Value.slice none 0 0),i0 0,i0 0,AV.slc 1048577 [0,0] 0 (List.length (Prod.snd i2)),i0 (Prod.fst i2)]/\hpL [eR 1048577 [0,0] 3 z1]=hpL [eR 1048577 [0,0] 3 (Prod.snd i2)])/\ex=ex/\Wk z3 z3/\SameH (hpL [eR 1048577 [0,1] 3 zs]) (hpL [eR 1048577 [0,1] 3 zs])))))))))))):=by kernel_rfl
def zasg:Orc:=Orc.t (HF (HF (HF (HF (HF (Orc.f (Orc.f (Orc.s Orc.z (Orc.s Orc.z (Orc.s Orc.z (Orc.s (Orc.t (Orc.t Orc.z)) (Orc.f (Orc.s Orc.z (Orc.s Orc.z (Orc.s Orc.z (Orc.t Orc.z))))))))))))))))
theorem zapi (Q:Int->List AV->Prop)(ex:Ex)(s:ByteArray)(e j:Int)(ys zs:List AV)(i:Int):zayl zasg Q ex s e j ys zs i=(let z1:=s0 (ByteArray.extract s (Int.toNat (Option.getD (some i) (0:Int))) (Int.toNat (Option.getD (some (i+1)) (↑(ByteArray.size s):Int)))); let z2:=((0:Int)<=Option.getD (some i) (0:Int)/\Option.getD (some i) (0:Int)<=Option.getD (some (i+1)) (↑(ByteArray.size s):Int)/\Option.getD (some (i+1)) (↑(ByteArray.size s):Int)<=(↑(ByteArray.size s):Int)/\false=false); let z3:=(AV.tup [s0 s,AV.lit (Value.slice none 0 0),i0 e,i0 j,AV.slc 1048577 [0,1] 0 (List.length zs)]); let z4:=(↑(zaaa s (Int.toNat i)):Int); let z5:=(List.take (List.length ys) (List.drop 0 ys)++[AV.agg [i0 7,i0 i,z1]]); let z6:=(hpL [eR 1048577 [0,1] 3 zs]); let z7:=AV.lit (Value.slice none 0 0); let z8:=(List.length ys); let z9:=(List.drop 0 ys); let z10:=(true&&Nat.ble (0+List.length ys) z8); let z11:=(List.take z8 z9++[AV.agg [i0 10,i0 i,z1]]); let z12:=(List.take z8 z9++[AV.agg [i0 2,i0 i,z1]]); let z13:=(List.take z8 z9++[AV.agg [i0 3,i0 i,z1]]); let z14:=(List.take z8 z9++[AV.agg [i0 4,i0 i,z1]]); let z15:=(List.take z8 z9++[AV.agg [i0 8,i0 i,z1]]); let z16:=(List.take z8 z9++[AV.agg [i0 9,i0 i,z1]]); let z17:=(true&&z10&&(true&&decide (List.length z5*32<=140737488355328/\List.length z5<=1152921504606846976))); let z18:=[s0 s,z7,i0 0,i0 0,AV.slc 1048577 [0,0] 0 (List.length z5),i0 (i+1)]; let z19:=(↑(ByteArray.size s):Int); decide (i<z19)=true/\decide ((0:Int)<=i/\i<z19)=true/\(z4==32)=false/\Nf ((z4==9)=false/\Nf ((z4==10)=false/\∃ (i1:Nat),(i1<256/\Wks [AV.lit (Value.int IntKind.u8 z4)] [AV.lit (Value.int IntKind.u8 (↑i1:Int))]/\hpL []=hpL [])/\zaaI i1=false/\inR IntKind.i64 (i+1)=true/\decide (i+1<z19)=false/\Nf4 (Nf (Nf (Nf (inR IntKind.i64 (i+1)=true/\decide (i+1<z19)=false/\Nf4 (Nf (Nf (Nf (((z4==40)=true->inR IntKind.i64 (i+1)=true/\decide z2=true/\(true&&z10&&(true&&decide (List.length z12*32<=140737488355328/\List.length z12<=1152921504606846976)))=true/\inR IntKind.i64 (i+1)=true/\∃ (i2:Int × List AV),(Q (Prod.fst i2) (Prod.snd i2)/\Wks [s0 s,z7,i0 0,i0 0,AV.slc 1048577 [0,0] 0 (List.length z12),i0 (i+1)] [s0 s,z7,i0 0,i0 0,AV.slc 1048577 [0,0] 0 (List.length (Prod.snd i2)),i0 (Prod.fst i2)]/\hpL [eR 1048577 [0,0] 3 z12]=hpL [eR 1048577 [0,0] 3 (Prod.snd i2)])/\ex=ex/\Wk z3 z3/\SameH z6 z6)/\((z4==40)=false->((z4==41)=true->inR IntKind.i64 (i+1)=true/\decide z2=true/\(true&&z10&&(true&&decide (List.length z13*32<=140737488355328/\List.length z13<=1152921504606846976)))=true/\inR IntKind.i64 (i+1)=true/\∃ (i3:Int × List AV),(Q (Prod.fst i3) (Prod.snd i3)/\Wks [s0 s,z7,i0 0,i0 0,AV.slc 1048577 [0,0] 0 (List.length z13),i0 (i+1)] [s0 s,z7,i0 0,i0 0,AV.slc 1048577 [0,0] 0 (List.length (Prod.snd i3)),i0 (Prod.fst i3)]/\hpL [eR 1048577 [0,0] 3 z13]=hpL [eR 1048577 [0,0] 3 (Prod.snd i3)])/\ex=ex/\Wk z3 z3/\SameH z6 z6)/\((z4==41)=false->((z4==44)=true->inR IntKind.i64 (i+1)=true/\decide z2=true/\(true&&z10&&(true&&decide (List.length z14*32<=140737488355328/\List.length z14<=1152921504606846976)))=true/\inR IntKind.i64 (i+1)=true/\∃ (i4:Int × List AV),(Q (Prod.fst i4) (Prod.snd i4)/\Wks [s0 s,z7,i0 0,i0 0,AV.slc 1048577 [0,0] 0 (List.length z14),i0 (i+1)] [s0 s,z7,i0 0,i0 0,AV.slc 1048577 [0,0] 0 (List.length (Prod.snd i4)),i0 (Prod.fst i4)]/\hpL [eR 1048577 [0,0] 3 z14]=hpL [eR 1048577 [0,0] 3 (Prod.snd i4)])/\ex=ex/\Wk z3 z3/\SameH z6 z6)/\((z4==44)=false->((z4==43)=true->Yt (Yt (inR IntKind.i64 (i+1)=true/\decide z2=true/\z17=true/\inR IntKind.i64 (i+1)=true/\∃ (i5:Int × List AV),(Q (Prod.fst i5) (Prod.snd i5)/\Wks z18 [s0 s,z7,i0 0,i0 0,AV.slc 1048577 [0,0] 0 (List.length (Prod.snd i5)),i0 (Prod.fst i5)]/\hpL [eR 1048577 [0,0] 3 z5]=hpL [eR 1048577 [0,0] 3 (Prod.snd i5)])/\ex=ex/\Wk z3 z3/\SameH z6 z6)))/\((z4==43)=false->Nf (((z4==124)=true->inR IntKind.i64 (i+1)=true/\decide z2=true/\z17=true/\inR IntKind.i64 (i+1)=true/\∃ (i6:Int × List AV),(Q (Prod.fst i6) (Prod.snd i6)/\Wks z18 [s0 s,z7,i0 0,i0 0,AV.slc 1048577 [0,0] 0 (List.length (Prod.snd i6)),i0 (Prod.fst i6)]/\hpL [eR 1048577 [0,0] 3 z5]=hpL [eR 1048577 [0,0] 3 (Prod.snd i6)])/\ex=ex/\Wk z3 z3/\SameH z6 z6)/\((z4==124)=false->((z4==45)=true->inR IntKind.i64 (i+1)=true/\decide z2=true/\(true&&z10&&(true&&decide (List.length z15*32<=140737488355328/\List.length z15<=1152921504606846976)))=true/\inR IntKind.i64 (i+1)=true/\∃ (i7:Int × List AV),(Q (Prod.fst i7) (Prod.snd i7)/\Wks [s0 s,z7,i0 0,i0 0,AV.slc 1048577 [0,0] 0 (List.length z15),i0 (i+1)] [s0 s,z7,i0 0,i0 0,AV.slc 1048577 [0,0] 0 (List.length (Prod.snd i7)),i0 (Prod.fst i7)]/\hpL [eR 1048577 [0,0] 3 z15]=hpL [eR 1048577 [0,0] 3 (Prod.snd i7)])/\ex=ex/\Wk z3 z3/\SameH z6 z6)/\((z4==45)=false->((z4==38)=true->inR IntKind.i64 (i+1)=true/\decide z2=true/\(true&&z10&&(true&&decide (List.length z16*32<=140737488355328/\List.length z16<=1152921504606846976)))=true/\inR IntKind.i64 (i+1)=true/\∃ (i8:Int × List AV),(Q (Prod.fst i8) (Prod.snd i8)/\Wks [s0 s,z7,i0 0,i0 0,AV.slc 1048577 [0,0] 0 (List.length z16),i0 (i+1)] [s0 s,z7,i0 0,i0 0,AV.slc 1048577 [0,0] 0 (List.length (Prod.snd i8)),i0 (Prod.fst i8)]/\hpL [eR 1048577 [0,0] 3 z16]=hpL [eR 1048577 [0,0] 3 (Prod.snd i8)])/\ex=ex/\Wk z3 z3/\SameH z6 z6)/\((z4==38)=false->(z4==33)=true/\inR IntKind.i64 (i+1)=true/\decide z2=true/\(true&&z10&&(true&&decide (List.length z11*32<=140737488355328/\List.length z11<=1152921504606846976)))=true/\inR IntKind.i64 (i+1)=true/\∃ (i9:Int × List AV),(Q (Prod.fst i9) (Prod.snd i9)/\Wks [s0 s,z7,i0 0,i0 0,AV.slc 1048577 [0,0] 0 (List.length z11),i0 (i+1)] [s0 s,z7,i0 0,i0 0,AV.slc 1048577 [0,0] 0 (List.length (Prod.snd i9)),i0 (Prod.fst i9)]/\hpL [eR 1048577 [0,0] 3 z11]=hpL [eR 1048577 [0,0] 3 (Prod.snd i9)])/\ex=ex/\Wk z3 z3/\SameH z6 z6))))))))))))))))))):=by kernel_rfl
def zasf:Orc:=Orc.t (HF (Orc.f (Orc.f (Orc.t (Orc.t (HF (Orc.f (Orc.f (Orc.t (Orc.t (HF (Orc.f (Orc.f (Orc.s Orc.z (Orc.s Orc.z (Orc.s Orc.z (Orc.s (Orc.t (Orc.t Orc.z)) (Orc.f (Orc.s Orc.z (Orc.s Orc.z (Orc.s Orc.z (Orc.t Orc.z))))))))))))))))))))))
theorem zapg (Q:Int->List AV->Prop)(ex:Ex)(s:ByteArray)(e j:Int)(ys zs:List AV)(i:Int):zayk zasf Q ex s e j ys zs i=(let z1:=s0 (ByteArray.extract s (Int.toNat (Option.getD (some i) (0:Int))) (Int.toNat (Option.getD (some (i+1)) (↑(ByteArray.size s):Int)))); let z2:=((0:Int)<=Option.getD (some i) (0:Int)/\Option.getD (some i) (0:Int)<=Option.getD (some (i+1)) (↑(ByteArray.size s):Int)/\Option.getD (some (i+1)) (↑(ByteArray.size s):Int)<=(↑(ByteArray.size s):Int)/\false=false); let z3:=(AV.tup [s0 s,AV.lit (Value.slice none 0 0),i0 e,i0 j,AV.slc 1048577 [0,1] 0 (List.length zs)]); let z4:=(↑(zaaa s (Int.toNat i)):Int); let z5:=(List.take (List.length ys) (List.drop 0 ys)++[AV.agg [i0 7,i0 i,z1]]); let z6:=(hpL [eR 1048577 [0,1] 3 zs]); let z7:=AV.lit (Value.slice none 0 0); let z8:=(List.length ys); let z9:=(List.drop 0 ys); let z10:=(true&&Nat.ble (0+List.length ys) z8); let z11:=(List.take z8 z9++[AV.agg [i0 10,i0 i,z1]]); let z12:=(List.take z8 z9++[AV.agg [i0 2,i0 i,z1]]); let z13:=(List.take z8 z9++[AV.agg [i0 3,i0 i,z1]]); let z14:=(List.take z8 z9++[AV.agg [i0 4,i0 i,z1]]); let z15:=(List.take z8 z9++[AV.agg [i0 8,i0 i,z1]]); let z16:=(List.take z8 z9++[AV.agg [i0 9,i0 i,z1]]); let z17:=(true&&z10&&(true&&decide (List.length z5*32<=140737488355328/\List.length z5<=1152921504606846976))); let z18:=[s0 s,z7,i0 0,i0 0,AV.slc 1048577 [0,0] 0 (List.length z5),i0 (i+1)]; let z19:=(↑(ByteArray.size s):Int); decide (i<z19)=true/\decide ((0:Int)<=i/\i<z19)=true/\(z4==32)=false/\Nf ((z4==9)=false/\Nf ((z4==10)=false/\∃ (i1:Nat),(i1<256/\Wks [AV.lit (Value.int IntKind.u8 z4)] [AV.lit (Value.int IntKind.u8 (↑i1:Int))]/\hpL []=hpL [])/\zaaI i1=false/\inR IntKind.i64 (i+1)=true/\decide (i+1<z19)=true/\Yt ((z4==58)=false/\Nf4 (Nf (inR IntKind.i64 (i+1)=true/\decide (i+1<z19)=true/\Yt ((z4==46)=false/\Nf4 (Nf (((z4==40)=true->inR IntKind.i64 (i+1)=true/\decide z2=true/\(true&&z10&&(true&&decide (List.length z12*32<=140737488355328/\List.length z12<=1152921504606846976)))=true/\inR IntKind.i64 (i+1)=true/\∃ (i2:Int × List AV),(Q (Prod.fst i2) (Prod.snd i2)/\Wks [s0 s,z7,i0 0,i0 0,AV.slc 1048577 [0,0] 0 (List.length z12),i0 (i+1)] [s0 s,z7,i0 0,i0 0,AV.slc 1048577 [0,0] 0 (List.length (Prod.snd i2)),i0 (Prod.fst i2)]/\hpL [eR 1048577 [0,0] 3 z12]=hpL [eR 1048577 [0,0] 3 (Prod.snd i2)])/\ex=ex/\Wk z3 z3/\SameH z6 z6)/\((z4==40)=false->((z4==41)=true->inR IntKind.i64 (i+1)=true/\decide z2=true/\(true&&z10&&(true&&decide (List.length z13*32<=140737488355328/\List.length z13<=1152921504606846976)))=true/\inR IntKind.i64 (i+1)=true/\∃ (i3:Int × List AV),(Q (Prod.fst i3) (Prod.snd i3)/\Wks [s0 s,z7,i0 0,i0 0,AV.slc 1048577 [0,0] 0 (List.length z13),i0 (i+1)] [s0 s,z7,i0 0,i0 0,AV.slc 1048577 [0,0] 0 (List.length (Prod.snd i3)),i0 (Prod.fst i3)]/\hpL [eR 1048577 [0,0] 3 z13]=hpL [eR 1048577 [0,0] 3 (Prod.snd i3)])/\ex=ex/\Wk z3 z3/\SameH z6 z6)/\((z4==41)=false->((z4==44)=true->inR IntKind.i64 (i+1)=true/\decide z2=true/\(true&&z10&&(true&&decide (List.length z14*32<=140737488355328/\List.length z14<=1152921504606846976)))=true/\inR IntKind.i64 (i+1)=true/\∃ (i4:Int × List AV),(Q (Prod.fst i4) (Prod.snd i4)/\Wks [s0 s,z7,i0 0,i0 0,AV.slc 1048577 [0,0] 0 (List.length z14),i0 (i+1)] [s0 s,z7,i0 0,i0 0,AV.slc 1048577 [0,0] 0 (List.length (Prod.snd i4)),i0 (Prod.fst i4)]/\hpL [eR 1048577 [0,0] 3 z14]=hpL [eR 1048577 [0,0] 3 (Prod.snd i4)])/\ex=ex/\Wk z3 z3/\SameH z6 z6)/\((z4==44)=false->((z4==43)=true->Yt (Yt (inR IntKind.i64 (i+1)=true/\decide z2=true/\z17=true/\inR IntKind.i64 (i+1)=true/\∃ (i5:Int × List AV),(Q (Prod.fst i5) (Prod.snd i5)/\Wks z18 [s0 s,z7,i0 0,i0 0,AV.slc 1048577 [0,0] 0 (List.length (Prod.snd i5)),i0 (Prod.fst i5)]/\hpL [eR 1048577 [0,0] 3 z5]=hpL [eR 1048577 [0,0] 3 (Prod.snd i5)])/\ex=ex/\Wk z3 z3/\SameH z6 z6)))/\((z4==43)=false->Nf (((z4==124)=true->inR IntKind.i64 (i+1)=true/\decide z2=true/\z17=true/\inR IntKind.i64 (i+1)=true/\∃ (i6:Int × List AV),(Q (Prod.fst i6) (Prod.snd i6)/\Wks z18 [s0 s,z7,i0 0,i0 0,AV.slc 1048577 [0,0] 0 (List.length (Prod.snd i6)),i0 (Prod.fst i6)]/\hpL [eR 1048577 [0,0] 3 z5]=hpL [eR 1048577 [0,0] 3 (Prod.snd i6)])/\ex=ex/\Wk z3 z3/\SameH z6 z6)/\((z4==124)=false->((z4==45)=true->inR IntKind.i64 (i+1)=true/\decide z2=true/\(true&&z10&&(true&&decide (List.length z15*32<=140737488355328/\List.length z15<=1152921504606846976)))=true/\inR IntKind.i64 (i+1)=true/\∃ (i7:Int × List AV),(Q (Prod.fst i7) (Prod.snd i7)/\Wks [s0 s,z7,i0 0,i0 0,AV.slc 1048577 [0,0] 0 (List.length z15),i0 (i+1)] [s0 s,z7,i0 0,i0 0,AV.slc 1048577 [0,0] 0 (List.length (Prod.snd i7)),i0 (Prod.fst i7)]/\hpL [eR 1048577 [0,0] 3 z15]=hpL [eR 1048577 [0,0] 3 (Prod.snd i7)])/\ex=ex/\Wk z3 z3/\SameH z6 z6)/\((z4==45)=false->((z4==38)=true->inR IntKind.i64 (i+1)=true/\decide z2=true/\(true&&z10&&(true&&decide (List.length z16*32<=140737488355328/\List.length z16<=1152921504606846976)))=true/\inR IntKind.i64 (i+1)=true/\∃ (i8:Int × List AV),(Q (Prod.fst i8) (Prod.snd i8)/\Wks [s0 s,z7,i0 0,i0 0,AV.slc 1048577 [0,0] 0 (List.length z16),i0 (i+1)] [s0 s,z7,i0 0,i0 0,AV.slc 1048577 [0,0] 0 (List.length (Prod.snd i8)),i0 (Prod.fst i8)]/\hpL [eR 1048577 [0,0] 3 z16]=hpL [eR 1048577 [0,0] 3 (Prod.snd i8)])/\ex=ex/\Wk z3 z3/\SameH z6 z6)/\((z4==38)=false->(z4==33)=true/\inR IntKind.i64 (i+1)=true/\decide z2=true/\(true&&z10&&(true&&decide (List.length z11*32<=140737488355328/\List.length z11<=1152921504606846976)))=true/\inR IntKind.i64 (i+1)=true/\∃ (i9:Int × List AV),(Q (Prod.fst i9) (Prod.snd i9)/\Wks [s0 s,z7,i0 0,i0 0,AV.slc 1048577 [0,0] 0 (List.length z11),i0 (i+1)] [s0 s,z7,i0 0,i0 0,AV.slc 1048577 [0,0] 0 (List.length (Prod.snd i9)),i0 (Prod.fst i9)]/\hpL [eR 1048577 [0,0] 3 z11]=hpL [eR 1048577 [0,0] 3 (Prod.snd i9)])/\ex=ex/\Wk z3 z3/\SameH z6 z6))))))))))))))))):=by kernel_rfl
theorem zapf (Q:Int->List AV->Prop)(s:ByteArray)(ys:List AV)(i:Int):zaAs (Orc.t (Orc.f (Orc.f (Orc.f (Orc.f (Orc.f (Orc.f (Orc.f (Orc.f (Orc.f (Orc.f (Orc.f (Orc.f (Orc.f (Orc.f (Orc.f (Orc.f (Orc.f (Orc.f (Orc.f (Orc.f (Orc.f (Orc.f (Orc.f (Orc.f (Orc.f (Orc.f (Orc.f (Orc.f (Orc.f (Orc.f (Orc.f Orc.z)))))))))))))))))))))))))))))))) Q s ys i=(let z1:=(↑(ByteArray.size s):Int); decide (i<z1)=true/\decide ((0:Int)<=i/\i<z1)=true/\((zabi s i)==32)=false/\Nf (((zabi s i)==9)=false/\Nf (((zabi s i)==10)=false/\∃ (i1:Nat),(zaqP i1 s i)/\zaaI i1=false/\inR IntKind.i64 (i+1)=true/\decide (i+1<z1)=false/\Nf4 (Nf (Nf (Nf (inR IntKind.i64 (i+1)=true/\decide (i+1<z1)=false/\Nf4 (Nf (Nf (Nf (((zabi s i)==40)=false/\((zabi s i)==41)=false/\((zabi s i)==44)=false/\((zabi s i)==43)=false/\Nf (((zabi s i)==124)=false/\((zabi s i)==45)=false/\((zabi s i)==38)=false/\((zabi s i)==33)=false/\Ex.ret=Ex.ret/\Wk (zanI s i ys) (zanI s i ys)/\SameH (hpL [eR 1048577 [0,0] 3 ys]) (hpL [eR 1048577 [0,0] 3 ys]))))))))))))):=by kernel_rfl
theorem zape (Q:Int->List AV->Prop)(s:ByteArray)(ys:List AV)(i:Int):zaAr (Orc.t (Orc.f (Orc.f (Orc.f (Orc.f (Orc.f (Orc.f (Orc.t (Orc.t (Orc.f (Orc.f (Orc.f (Orc.f (Orc.f (Orc.f (Orc.t (Orc.t (Orc.f (Orc.f (Orc.f (Orc.f (Orc.f (Orc.f (Orc.f (Orc.f (Orc.f (Orc.f (Orc.f (Orc.f (Orc.f (Orc.f (Orc.f Orc.z)))))))))))))))))))))))))))))))) Q s ys i=(let z1:=(↑(ByteArray.size s):Int); decide (i<z1)=true/\decide ((0:Int)<=i/\i<z1)=true/\((zabi s i)==32)=false/\Nf (((zabi s i)==9)=false/\Nf (((zabi s i)==10)=false/\∃ (i1:Nat),(zaqP i1 s i)/\zaaI i1=false/\inR IntKind.i64 (i+1)=true/\decide (i+1<z1)=true/\Yt (((zabi s i)==58)=false/\Nf4 (Nf (inR IntKind.i64 (i+1)=true/\decide (i+1<z1)=true/\Yt (((zabi s i)==46)=false/\Nf4 (Nf (((zabi s i)==40)=false/\((zabi s i)==41)=false/\((zabi s i)==44)=false/\((zabi s i)==43)=false/\Nf (((zabi s i)==124)=false/\((zabi s i)==45)=false/\((zabi s i)==38)=false/\((zabi s i)==33)=false/\Ex.ret=Ex.ret/\Wk (zanI s i ys) (zanI s i ys)/\SameH (hpL [eR 1048577 [0,0] 3 ys]) (hpL [eR 1048577 [0,0] 3 ys]))))))))))):=by kernel_rfl
theorem zapd (Q:Int->List AV->Prop)(s:ByteArray)(ys:List AV)(i:Int):zaAq (Orc.t (Orc.f (Orc.f (Orc.f (Orc.f (Orc.f (Orc.f (Orc.t (Orc.t (Orc.t (Orc.t (Orc.t (Orc.t (Orc.t (Orc.f (Orc.t (Orc.t (Orc.f (Orc.f (Orc.f (Orc.f (Orc.f (Orc.f (Orc.f (Orc.f (Orc.f (Orc.f (Orc.f (Orc.f (Orc.f (Orc.f (Orc.f Orc.z)))))))))))))))))))))))))))))))) Q s ys i=(let z1:=(↑(ByteArray.size s):Int); decide (i<z1)=true/\decide ((0:Int)<=i/\i<z1)=true/\((zabi s i)==32)=false/\Nf (((zabi s i)==9)=false/\Nf (((zabi s i)==10)=false/\∃ (i1:Nat),(zaqP i1 s i)/\zaaI i1=false/\inR IntKind.i64 (i+1)=true/\decide (i+1<z1)=true/\Yt (((zabi s i)==58)=true/\Yt (Yt (inR IntKind.i64 (i+1)=true/\Yt (decide ((0:Int)<=i+1/\i+1<z1)=true/\Yt (((↑(zaaa s (Int.toNat (i+1))):Int)==58)=false/\inR IntKind.i64 (i+1)=true/\decide (i+1<z1)=true/\Yt (((zabi s i)==46)=false/\Nf4 (Nf (((zabi s i)==40)=false/\((zabi s i)==41)=false/\((zabi s i)==44)=false/\((zabi s i)==43)=false/\Nf (((zabi s i)==124)=false/\((zabi s i)==45)=false/\((zabi s i)==38)=false/\((zabi s i)==33)=false/\Ex.ret=Ex.ret/\Wk (zanI s i ys) (zanI s i ys)/\SameH (hpL [eR 1048577 [0,0] 3 ys]) (hpL [eR 1048577 [0,0] 3 ys]))))))))))))):=by kernel_rfl
theorem zapc (Q:Int->List AV->Prop)(s:ByteArray)(ys:List AV)(i:Int):zaAp (Orc.t (Orc.f (Orc.f (Orc.f (Orc.f (Orc.f (Orc.f (Orc.t (Orc.t (Orc.f (Orc.f (Orc.f (Orc.f (Orc.f (Orc.f (Orc.t (Orc.t (Orc.t (Orc.t (Orc.t (Orc.t (Orc.t (Orc.f (Orc.f (Orc.f (Orc.f (Orc.f (Orc.f (Orc.f (Orc.f (Orc.f (Orc.f Orc.z)))))))))))))))))))))))))))))))) Q s ys i=(let z1:=(↑(ByteArray.size s):Int); decide (i<z1)=true/\decide ((0:Int)<=i/\i<z1)=true/\((zabi s i)==32)=false/\Nf (((zabi s i)==9)=false/\Nf (((zabi s i)==10)=false/\∃ (i1:Nat),(zaqP i1 s i)/\zaaI i1=false/\inR IntKind.i64 (i+1)=true/\decide (i+1<z1)=true/\Yt (((zabi s i)==58)=false/\Nf4 (Nf (inR IntKind.i64 (i+1)=true/\decide (i+1<z1)=true/\Yt (((zabi s i)==46)=true/\Yt (Yt (inR IntKind.i64 (i+1)=true/\Yt (decide ((0:Int)<=i+1/\i+1<z1)=true/\Yt (((↑(zaaa s (Int.toNat (i+1))):Int)==46)=false/\((zabi s i)==40)=false/\((zabi s i)==41)=false/\((zabi s i)==44)=false/\((zabi s i)==43)=false/\Nf (((zabi s i)==124)=false/\((zabi s i)==45)=false/\((zabi s i)==38)=false/\((zabi s i)==33)=false/\Ex.ret=Ex.ret/\Wk (zanI s i ys) (zanI s i ys)/\SameH (hpL [eR 1048577 [0,0] 3 ys]) (hpL [eR 1048577 [0,0] 3 ys]))))))))))))):=by kernel_rfl
end Go.Proofs.YtpofhijgccocpaaGreatDoor
end
section
namespace Go.Proofs.YtpofhijgccocpaaGreatDoor
open Go.AS Go.TP
noncomputable section
abbrev BJW (xs:List AV)(σ:Hp)(r:Ex × Back):Prop:=zadp Tryz.prog gl0 (fn zabd).ntmps (zabw (code zabd) 3) [0,2,3,4,5,6,8] (fun _=>[0,2,3,4,5,6,8]) xs σ fun _ q=>q=r
theorem zapk {P:Prop}{s:ByteArray}{ys:List AV}{i n w:Int}(hs:s.size<=600)(h0:0<=i)(hi:i<s.size)(hn:0<=n)(hm:n<=600)(h1:¬(i+n<s.size/\zaaI (zaaa s (i+n).toNat)=true)->w=n)(h2:i+n<s.size/\zaaI (zaaa s (i+n).toNat)=true->P) :
  rJW orJW P s ys i n w:=by
 rw [zaww]
 have hr:inR .i64 (i+n)=true:=zaao (by omega) (by omega)
 refine ⟨hr,fun h => ?_,fun h => ?_⟩
 · have h:=of_decide_eq_true h
   refine ⟨rfl,rfl,rfl,hr,rfl,decide_eq_true ⟨by omega,h⟩,rfl,_,⟨zaaS _ _, .refl _,rfl⟩,fun g => ?_,fun g => ?_⟩
   · exact ⟨zaao (by omega) (by omega),(),⟨h2 ⟨h,g⟩, .refl _,rfl⟩,rfl, .refl _, .rfl⟩
   · rw [h1 fun q=>by rw [q.2] at g; cases g]; exact ⟨rfl, .refl _, .rfl⟩
 · have h:=of_decide_eq_false h
   rw [h1 fun q=>h q.1]; exact ⟨rfl,rfl,rfl,rfl,rfl,rfl,rfl, .refl _, .rfl⟩
set_option maxRecDepth 100000 in
theorem jwL (s:ByteArray)(ys:List AV)(i:Int)(hs:s.size<=600)(h0:0<=i)(hi:i<s.size):∀ (f:Nat) (n:Int),0<=n->i+n<=s.size->s.size-(i+n)<=f->BJW (jw s ys i n) (zabn ys) (jwO s ys i (zadL (zabh s i) f n)):=by
 have hr:=zac s i h0 (by omega)
 have hb:∀ n:Int,0<=n->i+n<s.size->zaaa (zabh s i) n.toNat=zaaa s (i+n).toNat:=by
  intro n hn h
  rw [zaca s i.toNat n.toNat (by omega)]; congr 1; omega
 have rnd:∀ {os:Orc} {P:Prop} {n w:Int},(P->BJW (jw s ys i (n+1)) (zabn ys) (jwO s ys i w))->rJW os P s ys i n w->BJW (jw s ys i n) (zabn ys) (jwO s ys i w) :=
  fun ih h=>zacD (X:=XJ.ask [zabd]) (zajb.ask _) (fnOk zabd (by kernel_rfl)) (show (fn zabd).body=some (code zabd) by kernel_rfl) (by decide) ih h
 intro f
 induction f with
 | zero =>
  intro n h1 h2 h3
  exact rnd (P:=False) (fun h=>h.elim) (zapk hs h0 hi h1 (by omega) (fun _=>rfl) (fun q=>by omega))
 | succ f ih =>
  intro n h1 h2 h3
  rw [zadL]
  by_cases h:n<(zabh s i).size/\zaaI (zaaa (zabh s i) n.toNat)=true
  · rw [if_pos h]
    exact rnd (P:=True) (fun _=>ih (n+1) (by omega) (by omega) (by omega)) (zapk hs h0 hi h1 (by omega) (fun q=>absurd ⟨by omega,by rw [<-hb n h1 (by omega)]; exact h.2⟩ q) (fun _=>trivial))
  · rw [if_neg h]
    exact rnd (P:=False) (fun h=>h.elim) (zapk hs h0 hi h1 (by omega) (fun _=>rfl) (fun q=>absurd ⟨by omega,by rw [hb n h1 q.1]; exact q.2⟩ h))
set_option maxRecDepth 100000 in
theorem zaxC (s:ByteArray)(ys:List AV)(i:Int)(hs:s.size<=600)(h0:0<=i)(hi:i<s.size):(XJX s ys i (zadL (zabh s i) (zabh s i).size 1)).Sound :=
 zajb.addLp (fnOk zabd (by kernel_rfl)) (show (fn zabd).body=some (code zabd) by kernel_rfl) (by kernel_rfl)
  (Spl.ok (l:=[⟨Unit,fun _=>True,fun _=>jw s ys i 1,fun _=>zabn ys,fun _=>jwO s ys i (zadL (zabh s i) (zabh s i).size 1)⟩]) rfl (show ([0,2,3,4,5,6,8]:List Nat).Nodup by decide) fun s' hs' k _=>by
   obtain rfl:=List.mem_singleton.1 hs'
   have hr:=zac s i h0 (by omega)
   exact jwL s ys i hs h0 hi _ 1 (by decide) (by omega) (by omega))
theorem jleaf {Q:Int->List AV->Prop}{ex:Ex}{s:ByteArray}{x:AV}{σ:Hp}{ys:List AV}{i:Int}(hs:s.size<=600)(hy:ys.length<=600)(k d:Int)(h0:0<=i)(hd:0<=d)(h1:i+d<=s.size)(hQ:Q (i+d) (ys++[AV.agg [i0 k,i0 i,s0 (s.extract i.toNat (i+d).toNat)]])) :
  inR IntKind.i64 (i+d)=true/\decide (0<=Option.getD (some i) 0/\Option.getD (some i) 0<=Option.getD (some (i+d)) (s.size:Int)/\Option.getD (some (i+d)) (s.size:Int)<=(s.size:Int)/\false=false)=true /\
  (true&&(true&&Nat.ble (0+ys.length) ys.length)&&(true&&decide ((ys++[AV.agg [i0 k,i0 i,s0 (s.extract i.toNat (i+d).toNat)]]).length*32<=140737488355328/\(ys++[AV.agg [i0 k,i0 i,s0 (s.extract i.toNat (i+d).toNat)]]).length<=1152921504606846976)))=true/\inR IntKind.i64 (i+d)=true /\
  ∃ q:Int × List AV,(Q q.1 q.2/\Wks [s0 s, .lit (.slice none 0 0),i0 0,i0 0, .slc 1048577 [0,0] 0 (ys++[AV.agg [i0 k,i0 i,s0 (s.extract i.toNat (i+d).toNat)]]).length,i0 (i+d)] [s0 s, .lit (.slice none 0 0),i0 0,i0 0, .slc 1048577 [0,0] 0 q.2.length,i0 q.1] /\
   zabn (ys++[AV.agg [i0 k,i0 i,s0 (s.extract i.toNat (i+d).toNat)]])=zabn q.2)/\ex=ex/\Wk x x/\SameH σ σ:=by
 refine ⟨zaao (by omega) (by omega),decide_eq_true ⟨h0,by show i<=i+d; omega,h1,rfl⟩,?_,zaao (by omega) (by omega),(_,_),⟨hQ, .refl _,rfl⟩,rfl, .refl _, .rfl⟩
 simp; omega
theorem jeq {c n:Nat}(h:c=n):((c:Int)==(n:Int))=true:=by rw [h]; exact beq_self_eq_true _
theorem jne {c n:Nat}(h:c≠n):((c:Int)==(n:Int))=false:=beq_eq_false_iff_ne.2 fun q=>h (by omega)
theorem jblank {c:Nat}(h:zac3 c=false):((c:Int)==32)=false/\((c:Int)==9)=false/\((c:Int)==10)=false:=by
 unfold zac3 at h
 simp only [Bool.or_eq_false_iff,decide_eq_false_iff_not] at h
 exact ⟨jne h.1,jne h.2.1,jne h.2.2⟩
abbrev QT (Q:Int->List AV->Prop)(s:ByteArray)(ys:List AV)(i:Int):Prop:=Q (i+(oneS (zabh s i)).2) (ys++[encT (zanr s i)])
section
variable {Q:Int->List AV->Prop} {ex:Ex} {s:ByteArray} {e j:Int} {ys zs:List AV} {i:Int}
theorem jQ (k d:Int)(ho:oneS (zabh s i)=(k,d))(h:QT Q s ys i):Q (i+d) (ys++[AV.agg [i0 k,i0 i,s0 (s.extract i.toNat (i+d).toNat)]]):=by
 unfold QT zanr at h; rw [ho] at h; exact h
theorem zarW (hs:s.size<=600)(h0:0<=i)(h:i<s.size)(hb:zac3 (zaaa s i.toNat)=true)(hQ:Q (i+1) ys):rJXB zayt Q ex s e j ys zs i:=by
 rw [zarV]
 have hr:inR .i64 (i+1)=true:=zaao (by omega) (by omega)
 refine ⟨decide_eq_true h,decide_eq_true ⟨h0,h⟩,fun _=>⟨rfl,rfl,rfl,rfl,hr,(_,ys),⟨hQ, .refl _,rfl⟩,rfl, .refl _, .rfl⟩,fun n1=>⟨rfl,fun _=>⟨rfl,rfl,hr,(_,ys),⟨hQ, .refl _,rfl⟩,rfl, .refl _, .rfl⟩,fun n2=>⟨rfl,?_,hr,(_,ys),⟨hQ, .refl _,rfl⟩,rfl, .refl _, .rfl⟩⟩⟩
 unfold zac3 at hb
 have n1:=beq_eq_false_iff_ne.1 n1
 have n2:=beq_eq_false_iff_ne.1 n2
 simp only [Bool.or_eq_true,decide_eq_true_eq] at hb
 rw [beq_iff_eq]; omega
theorem sgn0 {c:Nat}{t:ByteArray}(h:(zaeX c t).1=0):c≠40/\c≠41/\c≠44/\c≠43/\c≠124/\c≠45/\c≠38/\c≠33:=by
 refine ⟨?_,?_,?_,?_,?_,?_,?_,?_⟩ <;> (rintro rfl; simp [zaeX] at h)
theorem sgn1 {c:Nat}{t:ByteArray}(h:(zaeX c t).1≠0)(h1:c≠58)(h2:c≠46)(n:c≠40/\c≠41/\c≠44/\c≠43/\c≠124/\c≠45/\c≠38):c=33:=by
 obtain ⟨n1,n2,n3,n4,n5,n6,n7⟩:=n
 by_cases h33:c=33
 · exact h33
 · unfold zaeX at h
   rw [if_neg h1,if_neg h2,if_neg n1,if_neg n2,if_neg n3,if_neg (fun q=>q.elim n4 n5),if_neg n6,if_neg n7,if_neg h33] at h
   exact absurd rfl h
theorem zacS (ys:List AV):List.take ys.length (List.drop 0 ys)=ys:=by rw [List.drop_zero,List.take_length]
set_option maxRecDepth 100000 in
theorem zarQ (hs:s.size<=600)(hy:ys.length<=600)(h0:0<=i)(h:i<s.size)(hb:zac3 (zaaa s i.toNat)=false)(hl:zaaI (zaaa s i.toNat)=true)(hQ:QT Q s ys i) :
  rJXW zayq Q ex s e j ys zs i (zadL (zabh s i) (zabh s i).size 1):=by
 have hr:=zac s i h0 (by omega)
 have hb0:zaaa (zabh s i) 0=zaaa s i.toNat:=zaca s i.toNat 0 (by omega)
 obtain ⟨w1,w2⟩:=zaig (s:=zabh s i) (by omega) (by rw [hb0]; exact hl)
 have w3:=(zaj3 (zabh s i)).2
 obtain ⟨b1,b2,b3⟩:=jblank hb
 have ho:oneS (zabh s i)=(zae (s.extract i.toNat (i+zagr (zabh s i)).toNat),zagr (zabh s i)):=by
  unfold oneS
  rw [if_pos w2,zavz s i.toNat (zagr (zabh s i)).toNat (by omega)]
  congr 3; omega
 rw [zarP]
 try dsimp only
 rw [zacS,<-w1]
 generalize hw:zagr (zabh s i)=w at *
 have hr1:inR .i64 (i+w)=true:=zaao (by omega) (by omega)
 refine ⟨decide_eq_true h,decide_eq_true ⟨h0,h⟩,b1,rfl,b2,rfl,b3,_,⟨zaaS _ _, .refl _,rfl⟩,hl,(),⟨trivial, .refl _,rfl⟩,hr1,decide_eq_true ⟨h0,by show i<=i+w; omega,by show i+w<=s.size; omega,rfl⟩,?_⟩
 have leaf:=fun k (hk:zae (s.extract i.toNat (i+w).toNat)=k)=>jleaf (ex:=ex) (s:=s) (x := .tup [s0 s, .lit (.slice none 0 0),i0 e,i0 j, .slc 1048577 [0,1] 0 zs.length]) (σ:=hpL [(1048577,⟨[0,1], .row true 3 zs⟩)]) hs hy k w h0 (by omega) (by omega) (jQ k w (by rw [ho,hk]) hQ)
 have eT:s.extract (Int.toNat (Option.getD (some i) 0)) (Int.toNat (Option.getD (some (i+w)) (s.size:Int)))=s.extract i.toNat (i+w).toNat:=rfl
 rw [eT,zaae _ bOr,zaae _ bAnd,zaae _ bNot,zaae _ zann]
 refine ⟨fun g=>leaf 7 ?_,fun n1=>⟨fun g=>leaf 9 ?_,fun n2=>⟨fun g=>leaf 10 ?_,fun n3=>⟨fun g=>leaf 8 ?_,fun n4=>leaf 1 ?_⟩⟩⟩⟩
 all_goals unfold zae
 · rw [if_pos (of_decide_eq_true g)]
 · rw [if_neg (of_decide_eq_false n1),if_pos (of_decide_eq_true g)]
 · rw [if_neg (of_decide_eq_false n1),if_neg (of_decide_eq_false n2),if_pos (of_decide_eq_true g)]
 · rw [if_neg (of_decide_eq_false n1),if_neg (of_decide_eq_false n2),if_neg (of_decide_eq_false n3),if_pos (of_decide_eq_true g)]
 · rw [if_neg (of_decide_eq_false n1),if_neg (of_decide_eq_false n2),if_neg (of_decide_eq_false n3),if_neg (of_decide_eq_false n4)]
theorem zadw (h0:0<=i)(h:i<s.size)(hl:zaaI (zaaa s i.toNat)=false):oneS (zabh s i)=zaeX (zaaa s i.toNat) (zabh s i):=by
 have hb0:zaaa (zabh s i) 0=zaaa s i.toNat:=zaca s i.toNat 0 (by omega)
 unfold oneS
 rw [zaos (by rw [hb0]; exact hl),if_neg (by decide)]
 unfold zaqL; rw [hb0]
theorem has2 (h0:0<=i)(h:i<s.size)(a:UInt8)(p:ByteArray)(hp:p=⟨#[a,a]⟩)(hc:zaaa s i.toNat=a.toNat):hasP (zabh s i) p=(decide (i+1<s.size)&&decide (zaaa s (i+1).toNat=a.toNat)):=by
 have hr:=zac s i h0 (by omega)
 have hb0:zaaa (zabh s i) 0=zaaa s i.toNat:=zaca s i.toNat 0 (by omega)
 rw [zafD (zabh s i) a a p hp,hb0,decide_eq_true hc,Bool.true_and]
 by_cases h1:i+1<s.size
 · have hb1:zaaa (zabh s i) 1=zaaa s (i+1).toNat:=by
     rw [zaca s i.toNat 1 (by omega)]; congr 1; omega
   rw [hb1,decide_eq_true h1,decide_eq_true (show 1<(zabh s i).size by omega)]
 · rw [decide_eq_false h1,decide_eq_false (show ¬1<(zabh s i).size by omega)]; rfl
set_option maxRecDepth 100000 in
theorem zarS (hs:s.size<=600)(hy:ys.length<=600)(h0:0<=i)(h:i<s.size)(hb:zac3 (zaaa s i.toNat)=false)(hl:zaaI (zaaa s i.toNat)=false)(h1:i+1<s.size)(hc:zaaa s i.toNat=58)(hd:zaaa s (i+1).toNat=58)(hQ:QT Q s ys i) :
  rJXR zayr Q ex s e j ys zs i:=by
 obtain ⟨b1,b2,b3⟩:=jblank hb
 have hr:inR .i64 (i+1)=true:=zaao (by omega) (by omega)
 have ho:=zadw h0 h hl
 rw [hc,show zaeX 58 (zabh s i)=(5,2) from by unfold zaeX; rw [if_pos rfl,if_pos (by rw [has2 h0 h 58 bCC rfl hc,decide_eq_true h1,decide_eq_true (show zaaa s (i+1).toNat=(58:UInt8).toNat from hd)]; rfl)]] at ho
 rw [zarR]
 try dsimp only
 rw [zacS]
 exact ⟨decide_eq_true h,decide_eq_true ⟨h0,h⟩,b1,rfl,b2,rfl,b3,_,⟨zaaS _ _, .refl _,rfl⟩,hl,hr,decide_eq_true h1,rfl,jeq hc,rfl,rfl,hr,rfl,decide_eq_true ⟨by omega,h1⟩,rfl,jeq hd,jleaf hs hy 5 2 h0 (by decide) (by omega) (jQ 5 2 ho hQ)⟩
set_option maxRecDepth 100000 in
theorem zarU (hs:s.size<=600)(hy:ys.length<=600)(h0:0<=i)(h:i<s.size)(hb:zac3 (zaaa s i.toNat)=false)(hl:zaaI (zaaa s i.toNat)=false)(h1:i+1<s.size)(hc:zaaa s i.toNat=46)(hd:zaaa s (i+1).toNat=46)(hQ:QT Q s ys i) :
  rJXD zays Q ex s e j ys zs i:=by
 obtain ⟨b1,b2,b3⟩:=jblank hb
 have hr:inR .i64 (i+1)=true:=zaao (by omega) (by omega)
 have ho:=zadw h0 h hl
 rw [hc,show zaeX 46 (zabh s i)=(6,2) from by unfold zaeX; rw [if_neg (by decide),if_pos rfl,if_pos (by rw [has2 h0 h 46 bDD rfl hc,decide_eq_true h1,decide_eq_true (show zaaa s (i+1).toNat=(46:UInt8).toNat from hd)]; rfl)]] at ho
 rw [zarT]
 try dsimp only
 rw [zacS]
 exact ⟨decide_eq_true h,decide_eq_true ⟨h0,h⟩,b1,rfl,b2,rfl,b3,_,⟨zaaS _ _, .refl _,rfl⟩,hl,hr,decide_eq_true h1,rfl,jne (by rw [hc]; decide),rfl,rfl,rfl,rfl,rfl,hr,decide_eq_true h1,rfl,jeq hc,rfl,rfl,hr,rfl,decide_eq_true ⟨by omega,h1⟩,rfl,jeq hd,jleaf hs hy 6 2 h0 (by decide) (by omega) (jQ 6 2 ho hQ)⟩
theorem oneC {c:Nat}{k:Int}(ho:oneS (zabh s i)=zaeX c (zabh s i)){n:Nat}(hc:((c:Int)==(n:Int))=true)(hk:zaeX n (zabh s i)=(k,1)):oneS (zabh s i)=(k,1):=by
 have hc:c=n:=by have:=beq_iff_eq.1 hc; omega
 rw [ho,hc,hk]
theorem nei {c n:Nat}(h:((c:Int)==(n:Int))=false):c≠n:=fun q=>beq_eq_false_iff_ne.1 h (by omega)
set_option maxRecDepth 100000 in
theorem zapj (hs:s.size<=600)(hy:ys.length<=600)(h0:0<=i)(h:i<s.size)(hb:zac3 (zaaa s i.toNat)=false)(hl:zaaI (zaaa s i.toNat)=false)(h1:¬i+1<s.size)(hc:zaaa s i.toNat≠58)(hd:zaaa s i.toNat≠46)(hk:(oneS (zabh s i)).1≠0)(hQ:QT Q s ys i) :
  zayl zasg Q ex s e j ys zs i:=by
 obtain ⟨b1,b2,b3⟩:=jblank hb
 have hr:inR .i64 (i+1)=true:=zaao (by omega) (by omega)
 have ho:=zadw h0 h hl
 rw [ho] at hk
 rw [zapi]
 try dsimp only
 rw [zacS]
 have leaf:=fun k ho=>jleaf (ex:=ex) (s:=s) (x := .tup [s0 s, .lit (.slice none 0 0),i0 e,i0 j, .slc 1048577 [0,1] 0 zs.length]) (σ:=hpL [(1048577,⟨[0,1], .row true 3 zs⟩)]) hs hy k 1 h0 (by decide) (by omega) (jQ k 1 ho hQ)
 exact ⟨decide_eq_true h,decide_eq_true ⟨h0,h⟩,b1,rfl,b2,rfl,b3,_,⟨zaaS _ _, .refl _,rfl⟩,hl,hr,decide_eq_false h1,rfl,rfl,rfl,rfl,rfl,rfl,rfl,hr,decide_eq_false h1,rfl,rfl,rfl,rfl,rfl,rfl,rfl,
  fun g=>leaf 2 (oneC ho g rfl),fun n1=>⟨fun g=>leaf 3 (oneC ho g rfl),fun n2=>⟨fun g=>leaf 4 (oneC ho g rfl),fun n3=>⟨fun g=>⟨rfl,rfl,leaf 7 (oneC ho g rfl)⟩,fun n4=>⟨rfl,fun g=>leaf 7 (oneC ho g rfl),fun n5=>⟨fun g=>leaf 8 (oneC ho g rfl),fun n6=>⟨fun g=>leaf 9 (oneC ho g rfl),fun n7 =>
   have e:zaaa s i.toNat=33:=sgn1 hk hc hd ⟨nei n1,nei n2,nei n3,nei n4,nei n5,nei n6,nei n7⟩
   ⟨jeq e,leaf 10 (oneC ho (jeq e) rfl)⟩⟩⟩⟩⟩⟩⟩⟩
set_option maxRecDepth 100000 in
theorem zaph (hs:s.size<=600)(hy:ys.length<=600)(h0:0<=i)(h:i<s.size)(hb:zac3 (zaaa s i.toNat)=false)(hl:zaaI (zaaa s i.toNat)=false)(h1:i+1<s.size)(hc:zaaa s i.toNat≠58)(hd:zaaa s i.toNat≠46)(hk:(oneS (zabh s i)).1≠0)(hQ:QT Q s ys i) :
  zayk zasf Q ex s e j ys zs i:=by
 obtain ⟨b1,b2,b3⟩:=jblank hb
 have hr:inR .i64 (i+1)=true:=zaao (by omega) (by omega)
 have ho:=zadw h0 h hl
 rw [ho] at hk
 rw [zapg]
 try dsimp only
 rw [zacS]
 have leaf:=fun k ho=>jleaf (ex:=ex) (s:=s) (x := .tup [s0 s, .lit (.slice none 0 0),i0 e,i0 j, .slc 1048577 [0,1] 0 zs.length]) (σ:=hpL [(1048577,⟨[0,1], .row true 3 zs⟩)]) hs hy k 1 h0 (by decide) (by omega) (jQ k 1 ho hQ)
 exact ⟨decide_eq_true h,decide_eq_true ⟨h0,h⟩,b1,rfl,b2,rfl,b3,_,⟨zaaS _ _, .refl _,rfl⟩,hl,hr,decide_eq_true h1,rfl,jne hc,rfl,rfl,rfl,rfl,rfl,hr,decide_eq_true h1,rfl,jne hd,rfl,rfl,rfl,rfl,rfl,
  fun g=>leaf 2 (oneC ho g rfl),fun n1=>⟨fun g=>leaf 3 (oneC ho g rfl),fun n2=>⟨fun g=>leaf 4 (oneC ho g rfl),fun n3=>⟨fun g=>⟨rfl,rfl,leaf 7 (oneC ho g rfl)⟩,fun n4=>⟨rfl,fun g=>leaf 7 (oneC ho g rfl),fun n5=>⟨fun g=>leaf 8 (oneC ho g rfl),fun n6=>⟨fun g=>leaf 9 (oneC ho g rfl),fun n7 =>
   have e:zaaa s i.toNat=33:=sgn1 hk hc hd ⟨nei n1,nei n2,nei n3,nei n4,nei n5,nei n6,nei n7⟩
   ⟨jeq e,leaf 10 (oneC ho (jeq e) rfl)⟩⟩⟩⟩⟩⟩⟩⟩
set_option maxRecDepth 100000 in
theorem zarO (h0:0<=i)(hs:s.size<=600)(h:i<s.size)(hb:zac3 (zaaa s i.toNat)=false)(hk:(oneS (zabh s i)).1=0):∃ os,rJXX os Q s ys i:=by
 have hl:zaaI (zaaa s i.toNat)=false:=by
  cases hl:zaaI (zaaa s i.toNat) with
  | false=>rfl
  | true =>
   have hr:=zac s i h0 (by omega)
   have hb0:zaaa (zabh s i) 0=zaaa s i.toNat:=zaca s i.toNat 0 (by omega)
   obtain ⟨w1,w2⟩:=zaig (s:=zabh s i) (by omega) (by rw [hb0]; exact hl)
   unfold oneS at hk
   rw [if_pos w2] at hk
   unfold zae at hk
   simp only at hk
   split at hk
   · exact absurd hk (by decide)
   · split at hk
     · exact absurd hk (by decide)
     · split at hk
       · exact absurd hk (by decide)
       · split at hk <;> exact absurd hk (by decide)
 obtain ⟨b1,b2,b3⟩:=jblank hb
 have hr:inR .i64 (i+1)=true:=zaao (by omega) (by omega)
 have ho:=zadw h0 h hl
 rw [ho] at hk
 obtain ⟨n1,n2,n3,n4,n5,n6,n7,n8⟩:=sgn0 hk
 by_cases h1:i+1<s.size
 · by_cases hc:zaaa s i.toNat=58
   · have hd:zaaa s (i+1).toNat≠58:=by
       intro hd
       rw [hc] at hk
       unfold zaeX at hk
       rw [if_pos rfl,if_pos (by rw [has2 h0 h 58 bCC rfl hc,decide_eq_true h1,decide_eq_true (show zaaa s (i+1).toNat=(58:UInt8).toNat from hd)]; rfl)] at hk
       exact absurd hk (by decide)
     exact ⟨_,(zapd Q s ys i).mpr ⟨decide_eq_true h,decide_eq_true ⟨h0,h⟩,b1,rfl,b2,rfl,b3,_,⟨zaaS _ _, .refl _,rfl⟩,hl,hr,decide_eq_true h1,rfl,jeq hc,rfl,rfl,hr,rfl,decide_eq_true ⟨by omega,h1⟩,rfl,jne hd,hr,decide_eq_true h1,rfl,jne (by rw [hc]; decide),rfl,rfl,rfl,rfl,rfl,jne n1,jne n2,jne n3,jne n4,rfl,jne n5,jne n6,jne n7,jne n8,rfl, .refl _, .rfl⟩⟩
   · by_cases hd:zaaa s i.toNat=46
     · have hd2:zaaa s (i+1).toNat≠46:=by
         intro hd2
         rw [hd] at hk
         unfold zaeX at hk
         rw [if_neg (by decide),if_pos rfl,if_pos (by rw [has2 h0 h 46 bDD rfl hd,decide_eq_true h1,decide_eq_true (show zaaa s (i+1).toNat=(46:UInt8).toNat from hd2)]; rfl)] at hk
         exact absurd hk (by decide)
       exact ⟨_,(zapc Q s ys i).mpr ⟨decide_eq_true h,decide_eq_true ⟨h0,h⟩,b1,rfl,b2,rfl,b3,_,⟨zaaS _ _, .refl _,rfl⟩,hl,hr,decide_eq_true h1,rfl,jne hc,rfl,rfl,rfl,rfl,rfl,hr,decide_eq_true h1,rfl,jeq hd,rfl,rfl,hr,rfl,decide_eq_true ⟨by omega,h1⟩,rfl,jne hd2,jne n1,jne n2,jne n3,jne n4,rfl,jne n5,jne n6,jne n7,jne n8,rfl, .refl _, .rfl⟩⟩
     · exact ⟨_,(zape Q s ys i).mpr ⟨decide_eq_true h,decide_eq_true ⟨h0,h⟩,b1,rfl,b2,rfl,b3,_,⟨zaaS _ _, .refl _,rfl⟩,hl,hr,decide_eq_true h1,rfl,jne hc,rfl,rfl,rfl,rfl,rfl,hr,decide_eq_true h1,rfl,jne hd,rfl,rfl,rfl,rfl,rfl,jne n1,jne n2,jne n3,jne n4,rfl,jne n5,jne n6,jne n7,jne n8,rfl, .refl _, .rfl⟩⟩
 · exact ⟨_,(zapf Q s ys i).mpr ⟨decide_eq_true h,decide_eq_true ⟨h0,h⟩,b1,rfl,b2,rfl,b3,_,⟨zaaS _ _, .refl _,rfl⟩,hl,hr,decide_eq_false h1,rfl,rfl,rfl,rfl,rfl,rfl,rfl,hr,decide_eq_false h1,rfl,rfl,rfl,rfl,rfl,rfl,rfl,jne n1,jne n2,jne n3,jne n4,rfl,jne n5,jne n6,jne n7,jne n8,rfl, .refl _, .rfl⟩⟩
end
abbrev BJX (xs:List AV)(σ:Hp)(r:Ex × Back):Prop:=zadp Tryz.prog gl0 (fn zabd).ntmps (zabw (code zabd) 0) [0,2,3,4,5,6] (fun _=>[0,2,3,4,5]) xs σ fun _ q=>q=r
abbrev zazB (Q:Int->List AV->Prop)(s:ByteArray)(r:Ex × Back):Spl:=⟨Int × List AV,fun q=>Q q.1 q.2,fun q=>zae6 s q.2 q.1,fun q=>zabn q.2,fun _=>r⟩
set_option maxRecDepth 100000 in
theorem zade {X:WX}(hX:X.Sound)(hp:X.px=X0){os:Orc}{fc:List Nat}{Q:Int->List AV->Prop}{s:ByteArray}{ys:List AV}{i:Int}{r r':Ex × Back}(ih:∀ i' ys',Q i' ys'->BJX (zae6 s ys' i') (zabn ys') r')(h:rJX X os fc Q s ys i r r'):BJX (zae6 s ys i) (zabn ys) r:=by
 have hP:X.px.P=Tryz.prog:=by rw [hp]; rfl
 have hg:X.px.gl=gl0:=by rw [hp]; rfl
 have:=zaf1 (X:=X.ask [zabd]) (hX.ask _) (f:=zabd) (fn:=fn zabd) (code:=code zabd) (by show X.px.P.funcs[zabd]?=_; rw [hP]; exact fnOk zabd (by kernel_rfl)) (show (fn zabd).body=some (code zabd) by kernel_rfl) (L:=lpJX Q s r') (L':=lpJX Q s r') (l:=[zazB Q s r']) rfl (show ([0,2,3,4,5,6]:List Nat).Nodup by decide)
  (fun s' hs' q hq=>by obtain rfl:=List.mem_singleton.1 hs'; show zadp X.px.P X.px.gl _ _ _ _ _ _ _; rw [hP,hg]; exact ih q.1 q.2 hq) h
 show zadp Tryz.prog gl0 _ _ _ _ _ _ _
 rw [<-hg,<-hP]; exact this
theorem zawJ {s:ByteArray}{ex:Ex}{e j:Int}{xs zs:List AV}{σ:Hp}(h:BJX xs σ (jxR 0 ex s e j zs)):BJX xs σ (jxR 1 ex s e j zs):=by
 have hg:∀ (c k:Nat),aget (hpL [(1048577,⟨[0,c], .row true 3 zs⟩)]) k=if k=1048577 then some ⟨[0,c], .row true 3 zs⟩ else none:=by
  intro c k
  simp only [hpL]
  rw [zaad,zaaz]
 refine zadp.ren1 (l:=1048577) (i:=[0,0]) (i':=[0,1]) (n:=zs.length) h ?_ ((hg 0 _).trans (if_pos rfl)) ?_ ⟨[0],rfl⟩ (hg 1) (fun k hk=>hk) (List.mem_singleton.2 rfl)
 · intro t z' ht
   simp only [mkSl,zaad,zaaz] at ht ⊢
   by_cases e0:t=0
   · rw [if_pos e0] at ht ⊢; cases ht; exact ⟨_,rfl, .inl ⟨rfl,rfl⟩⟩
   rw [if_neg e0] at ht ⊢
   by_cases e2:t=2
   · rw [if_pos e2] at ht ⊢; cases ht; exact ⟨_,rfl, .inl ⟨rfl,rfl⟩⟩
   rw [if_neg e2] at ht ⊢
   by_cases e3:t=3
   · rw [if_pos e3] at ht ⊢; cases ht; exact ⟨_,rfl, .inl ⟨rfl,rfl⟩⟩
   rw [if_neg e3] at ht ⊢
   by_cases e4:t=4
   · rw [if_pos e4] at ht ⊢; cases ht; exact ⟨_,rfl, .inl ⟨rfl,rfl⟩⟩
   rw [if_neg e4] at ht ⊢
   by_cases e5:t=5
   · rw [if_pos e5] at ht ⊢; cases ht; exact ⟨_,rfl, .inr ⟨rfl,rfl⟩⟩
   rw [if_neg e5] at ht
   exact nomatch ht
 · intro k e hk
   rw [hg] at hk
   split at hk
   · assumption
   · cases hk
def JForm (r:Option Int × List Tk)(ex:Ex)(e j:Int)(zs:List AV):Prop:=match r with
 | (none,ts)=>ex = .exit 0/\e=0/\j=0/\zs=ts.map encT
 | (some j',_)=>ex = .ret/\e=15/\j=j'
attribute [local irreducible] runL in
set_option maxRecDepth 100000 in
theorem jxL (s:ByteArray)(hs:s.size<=600):∀ (f:Nat) (i:Int) (out:List Tk),0<=i->s.size-i<=f->out.length+(s.size-i)<=600->i<=s.size ->
  ∃ ex e j zs,JForm (lexG s f i out) ex e j zs/\BJX (zae6 s (out.map encT) i) (zabn (out.map encT)) (jxR 1 ex s e j zs):=by
 intro f
 induction f with
 | zero =>
  intro i out h0 h1 _ _
  exact ⟨_,_,_,_,⟨rfl,rfl,rfl,rfl⟩,zawJ (zade zajb rfl (Q:=fun _ _=>False) (r':=jxR 0 (.exit 0) s 0 0 (out.map encT)) (fun _ _ h=>h.elim) (show rJXE (Orc.f Orc.z) _ _ _ _ from by rw [zanE]; exact ⟨decide_eq_false (by omega),rfl, .refl _, .rfl⟩))⟩
 | succ f ih =>
  intro i out h0 h1 hl h2
  rw [lexG]
  by_cases hi:i<s.size
  · rw [if_pos hi]
    have hr:=zac s i h0 h2
    have hy:(out.map encT).length<=600:=by rw [List.length_map]; omega
    by_cases hb:zac3 (zaaa s i.toNat)=true
    · rw [if_pos hb]
      obtain ⟨ex,e,j,zs,hF,hB⟩:=ih (i+1) out (by omega) (by omega) (by omega) (by omega)
      exact ⟨ex,e,j,zs,hF,zade zajb rfl (Q:=fun i' ys'=>i'=i+1/\ys'=out.map encT) (fun i' ys' h=>by rw [h.1,h.2]; exact hB) (zarW hs h0 hi hb ⟨rfl,rfl⟩)⟩
    · rw [if_neg hb]
      have hb':zac3 (zaaa s i.toNat)=false:=by simpa using hb
      show ∃ ex e j zs,JForm (if (oneS (zabh s i)).1=0 then (some i,[]) else lexG s f (i+(oneS (zabh s i)).2) (out++[zanr s i])) ex e j zs/\_
      by_cases ho:(oneS (zabh s i)).1=0
      · rw [if_pos ho]
        obtain ⟨os,hx⟩:=zarO (Q:=fun _ _=>False) (ys:=out.map encT) h0 hs hi hb' ho
        exact ⟨_,_,_,_,⟨rfl,rfl,rfl⟩,zawJ (zade zajb rfl (fun _ _ h=>h.elim) hx)⟩
      · rw [if_neg ho]
        have k3:=zasl (zabh s i) (by omega) ho
        obtain ⟨ex,e,j,zs,hF,hB⟩:=ih (i+(oneS (zabh s i)).2) (out++[zanr s i]) (by omega) (by omega) (by rw [List.length_append,List.length_singleton]; omega) (by omega)
        have hQ:∀ i' ys',(i'=i+(oneS (zabh s i)).2/\ys'=out.map encT++[encT (zanr s i)])->BJX (zae6 s ys' i') (zabn ys') (jxR 1 ex s e j zs):=fun i' ys' h=>by rw [h.1,h.2]; rw [List.map_append] at hB; exact hB
        refine ⟨ex,e,j,zs,hF,?_⟩
        have hT:QT (fun i' ys'=>i'=i+(oneS (zabh s i)).2/\ys'=out.map encT++[encT (zanr s i)]) s (out.map encT) i:=⟨rfl,rfl⟩
        cases hlt:zaaI (zaaa s i.toNat) with
        | true=>exact zade (zaxC s (out.map encT) i hs h0 hi) rfl hQ (zarQ hs hy h0 hi hb' hlt hT)
        | false =>
          have h1s:=zadw h0 hi hlt
          by_cases hlen:i+1<s.size
          · by_cases hc:zaaa s i.toNat=58
            · by_cases hd:zaaa s (i+1).toNat=58
              · exact zade zajb rfl hQ (zarS hs hy h0 hi hb' hlt hlen hc hd hT)
              · refine absurd ?_ ho
                have e1:hasP (zabh s i) bDD=false:=by
                  rw [zafD _ 46 46 bDD rfl,zaca s i.toNat 0 (by omega),show zaaa s (i.toNat+0)=58 from hc]
                  simp
                rw [h1s,hc]; unfold zaeX
                rw [if_pos rfl,if_neg (by rw [has2 h0 hi 58 bCC rfl hc,decide_eq_true hlen,decide_eq_false (show ¬zaaa s (i+1).toNat=(58:UInt8).toNat from hd)]; decide),if_neg (by rw [e1]; decide)]
            · by_cases hd:zaaa s i.toNat=46
              · by_cases hd2:zaaa s (i+1).toNat=46
                · exact zade zajb rfl hQ (zarU hs hy h0 hi hb' hlt hlen hd hd2 hT)
                · refine absurd ?_ ho
                  rw [h1s,hd]; unfold zaeX
                  rw [if_neg (by decide),if_pos rfl,if_neg (by rw [has2 h0 hi 46 bDD rfl hd,decide_eq_true hlen,decide_eq_false (show ¬zaaa s (i+1).toNat=(46:UInt8).toNat from hd2)]; decide)]
              · exact zade zajb rfl hQ (zaph hs hy h0 hi hb' hlt hlen hc hd ho hT)
          · have e2:∀ a p,p=(⟨#[a,a]⟩:ByteArray)->hasP (zabh s i) p=false:=fun a p hp=>by
              rw [zafD _ a a p hp,decide_eq_false (show ¬1<(zabh s i).size by omega)]; rfl
            have hc:zaaa s i.toNat≠58:=by
              intro hc; refine ho ?_
              rw [h1s,hc]; unfold zaeX
              rw [if_pos rfl,if_neg (by rw [e2 58 bCC rfl]; decide),if_neg (by rw [e2 46 bDD rfl]; decide)]
            have hd:zaaa s i.toNat≠46:=by
              intro hd; refine ho ?_
              rw [h1s,hd]; unfold zaeX
              rw [if_neg (by decide),if_pos rfl,if_neg (by rw [e2 46 bDD rfl]; decide)]
            exact zade zajb rfl hQ (zapj hs hy h0 hi hb' hlt hlen hc hd ho hT)
  · rw [if_neg hi]
    exact ⟨_,_,_,_,⟨rfl,rfl,rfl,rfl⟩,zawJ (zade zajb rfl (Q:=fun _ _=>False) (r':=jxR 0 (.exit 0) s 0 0 (out.map encT)) (fun _ _ h=>h.elim) (show rJXE (Orc.f Orc.z) _ _ _ _ from by rw [zanE]; exact ⟨decide_eq_false hi,rfl, .refl _, .rfl⟩))⟩
set_option maxRecDepth 100000 in
theorem zaAC {s:ByteArray}{q:Ex × Back}(h:BJX (zae6 s [] 0) (zabn []) q):(XJ.addLp zabd 0 (lpJX (fun i ys=>i=0/\ys=[]) s q)).Sound :=
 zajb.addLp (fnOk zabd (by kernel_rfl)) (show (fn zabd).body=some (code zabd) by kernel_rfl) (by kernel_rfl)
  (Spl.ok (l:=[zazB (fun i ys=>i=0/\ys=[]) s q]) rfl (show ([0,2,3,4,5,6]:List Nat).Nodup by decide) fun s' hs' i hi=>by
   obtain rfl:=List.mem_singleton.1 hs'
   obtain ⟨h1,h2⟩:=hi
   show BJX (zae6 s i.2 i.1) (zabn i.2) q
   rw [h1,h2]; exact h)
def zavB:LexR->AV
 | .long => .tup [.lst false 3 [],i0 5,i0 0]
 | .bad i => .tup [.lst false 3 [],i0 15,i0 i]
 | .ok ts => .tup [.lst false 3 (ts.map encT),i0 0,i0 0]
abbrev FXLex (s:ByteArray)(x:AV):Prop:=F zabd [s0 s] x
attribute [local irreducible] runF in
set_option maxRecDepth 100000 in
theorem jxFn {s:ByteArray}{q:Ex × Back}{os:Orc}{x:AV}(h:BJX (zae6 s [] 0) (zabn []) q)(hg:gJX os s q x):FXLex s x :=
 zadS (X:=(XJ.addLp zabd 0 (lpJX (fun i ys=>i=0/\ys=[]) s q)).ask [zabd]) (d:=10) ((zaAC h).ask _) (f:=zabd) (fn:=fn zabd) (code:=code zabd) (fnOk zabd (by kernel_rfl)) (show (fn zabd).body=some (code zabd) by kernel_rfl) (by kernel_rfl) hg
attribute [local irreducible] runF in
set_option maxRecDepth 100000 in
theorem zaqY (s:ByteArray):FXLex s (zavB (lexS s)):=by
 unfold lexS
 by_cases h:600<s.size
 · rw [if_pos h]
   exact zadS (X:=XJ.ask [zabd]) (d:=10) (zajb.ask _) (f:=zabd) (fn:=fn zabd) (code:=code zabd) (fnOk zabd (by kernel_rfl)) (show (fn zabd).body=some (code zabd) by kernel_rfl) (by kernel_rfl) (show gJXL (Orc.t Orc.z) s from by rw [zauO]; exact ⟨decide_eq_true (by omega), .tup (.cons .nilS (.refl _)), .rfl⟩)
 · rw [if_neg h]
   have hs:s.size<=600:=by omega
   obtain ⟨ex,e,j,zs,hF,hB⟩:=jxL s hs s.size 0 [] (Int.le_refl _) (by omega) (by show (0:Int)+_<=_; omega) (by omega)
   have hlen:=zadz s s.size 0 []
   generalize lexG s s.size 0 []=R at hF hlen
   obtain ⟨_ | j',ts⟩:=R
   · have hl:=hlen ts (Int.le_refl _) (by omega) rfl
     obtain ⟨rfl,rfl,rfl,rfl⟩:=hF
     have hz:ts.length<=600:=by have:((([]:List Tk).length:Nat):Int)=0:=rfl; omega
     show FXLex s (.tup [.lst false 3 ((ts++[(⟨11,s.size,ByteArray.empty⟩:Tk)]).map encT),i0 0,i0 0])
     rw [List.map_append]
     refine jxFn hB (show gJXA (Orc.f Orc.z) s (ts.map encT) from ?_)
     rw [zauQ]
     try dsimp only
     rw [zacS,zacS]
     exact ⟨decide_eq_false (by omega),(_,_),⟨⟨rfl,rfl⟩, .refl _,rfl⟩,by simp; omega,by simp, .refl _, .rfl⟩
   · obtain ⟨rfl,rfl,rfl⟩:=hF
     refine jxFn hB (show gJXC (Orc.f Orc.z) s zs j from ?_)
     rw [zauP]
     exact ⟨decide_eq_false (by omega),(_,_),⟨⟨rfl,rfl⟩, .refl _,rfl⟩, .tup (.cons .nilS (.refl _)), .rfl⟩
end
end Go.Proofs.YtpofhijgccocpaaGreatDoor
end
section
namespace Go.Proofs.YtpofhijgccocpaaGreatDoor
open Go.AS Go.TP
noncomputable section
theorem hpL1 (a:Nat)(e:Ent)(k:Nat):aget (hpL [(a,e)]) k=if k=a then some e else none:=by
 simp only [hpL]; rw [zaad,zaaz]
theorem hpL2 (a b:Nat)(e f:Ent)(k:Nat):aget (hpL [(a,e),(b,f)]) k=if k=a then some e else if k=b then some f else none:=by
 simp only [hpL]; rw [zaad,zaad,zaaz]
theorem zamU:∀ g x,gl0 g=some x->zabA x=true:=by
 intro g x h
 have h:bsel (Nat.beq g zaeI) (some (.ref (zag5 eSyn))) (bsel (Nat.beq g zahX) (some (.ref (zag5 eRan))) (bsel (Nat.beq g gPow) (some powA) none))=some x:=h
 cases hb:Nat.beq g zaeI
 · rw [hb,zaaO] at h
   cases hb2:Nat.beq g zahX
   · rw [hb2,zaaO] at h
     cases hb3:Nat.beq g gPow
     · rw [hb3,zaaO] at h; cases h
     · rw [hb3,zaa2] at h; cases h; rfl
   · rw [hb2,zaa2] at h; cases h; rfl
 · rw [hb,zaa2] at h; cases h; rfl
theorem zarx (sz:Nat)(xs:List AV)(h:zaax xs=true):zajc (.row false sz xs) (.row true sz xs):=by
 intro E w L
 constructor
 · intro g
   cases g with
   | row h1 hx hc hs hn hb hf ho=>exact .row h1 (RR.pure_of hx h) hc hs hn hb hf ho
   | ghost _ _=>exact .ghost _ _
 · intro g
   cases g with
   | row h1 hx hc hs hn hb hf ho=>exact .row h1 ((show RR E.pure .cs xs _ from hx).mono E.pure_le) hc hs hn hb hf ho
   | ghost _ _=>exact .ghost _ _
theorem zafC (ts:List AV)(k d:Int)(xs:List AV)(bad pl:Int):zadX (xHp 0 ts k d xs bad pl) (xHpN ts k d xs bad pl):=by
 intro q
 unfold xHp xHpN
 rw [hpL2,hpL2]
 by_cases h1:q=1048577
 · rw [if_pos h1,if_pos h1]; exact .inr ⟨_,_,rfl,rfl,rfl,fun _ _ _ => .rfl⟩
 · rw [if_neg h1,if_neg h1]
   by_cases h2:q=1048578
   · rw [if_pos h2,if_pos h2]; exact .inr ⟨_,_,rfl,rfl,rfl,zait 6 1048577 0 xs.length [0,0] [.lst false 3 ts,i0 k,i0 d] [i0 bad,i0 pl]⟩
   · rw [if_neg h2,if_neg h2]; exact .inl ⟨rfl,rfl⟩
theorem zajV {all:List Tk}{s:RS}(h:XInv all s)(hb:s.bad=none){c:Int}{b:Bool}(hi:isR c s=b):FOk Tryz.prog gl0 fXIs [xArg,i0 c] (xHpN (all.map encT) (plc all s) s.deep (s.out.map xE) 0 0) ⟨b0 b,xHpN (all.map encT) (plc all s) s.deep (s.out.map xE) 0 0,[]⟩ :=
 FOk.same (r:=⟨b0 b,_,[]⟩) (zafC _ _ _ _ _ _) (zafC _ _ _ _ _ _) ⟨fun _ _=>rfl,fun _ e he=>⟨e,he⟩⟩ (zafd h hb hi)
theorem zajW {all:List Tk}{s:RS}(h:XInv all s)(hb:s.bad=none):FOk Tryz.prog gl0 zabB [xArg,i0 15] (xHpN (all.map encT) (plc all s) s.deep (s.out.map xE) 0 0)
  ⟨i0 0,xHpN (all.map encT) (plc all s) s.deep (s.out.map xE) (badE (zaaW 15 s)) (badP (zaaW 15 s)),[1048578]⟩:=by
 refine FOk.same (r:=⟨i0 0,_,[1048578]⟩) (zafC _ _ _ _ _ _) (zafC _ _ _ _ _ _) ⟨fun l hl => ?_,fun l e he => ?_⟩ (zajX h hb)
 · unfold xHpN
   have:l≠1048578:=fun q=>hl (List.mem_singleton.2 q)
   rw [hpL2,hpL2,if_neg this,if_neg this]
 · unfold xHpN at he ⊢
   rw [hpL2] at he ⊢
   by_cases h1:l=1048577
   · rw [if_pos h1]; exact ⟨_,rfl⟩
   · rw [if_neg h1] at he ⊢
     by_cases h2:l=1048578
     · rw [if_pos h2]; exact ⟨_,rfl⟩
     · rw [if_neg h2] at he; cases he
theorem zawj {ts:List Tk}{q:Nat × RS}(h:FOk Tryz.prog gl0 zaan [xArg] (xHp 0 (ts.map encT) 0 0 [] 0 0) ⟨i0 q.1,xS 1 ts q.2,[1048577,1048578]⟩) :
  FOk Tryz.prog gl0 zaan [.ptr 1048577 [0,0] 0 0] (xP0 (ts.map encT)) ⟨i0 q.1,xP1 (ts.map encT) (plc ts q.2) q.2.deep (q.2.out.map xE) (badE q.2) (badP q.2),[1048577,1048578]⟩:=by
 have g:=FOk.nil2 (sz:=6) (sz':=5) (n:=(q.2.out.map xE).length) (pre:=[.lst false 3 (ts.map encT),i0 0,i0 0]) (post:=[i0 0,i0 0]) (pre':=[.lst false 3 (ts.map encT),i0 (plc ts q.2),i0 q.2.deep]) (post':=[i0 (badE q.2),i0 (badP q.2)]) (ys:=q.2.out.map xE) zamU rfl rfl rfl rfl rfl rfl
  (fun k=>by unfold xHp; rw [hpL2]; rfl) (fun k=>zanq 1 ts q.2 k) h
 refine FOk.same (r:=⟨i0 q.1,_,[1048577,1048578]⟩) (fun k => ?_) (fun k => ?_) ⟨fun l hl => ?_,fun l e he => ?_⟩ g
 · unfold xP0
   rw [hpL1,hpL1]
   by_cases h1:k=1048577
   · rw [if_pos h1,if_pos h1]; exact .inr ⟨_,_,rfl,rfl,rfl,zarx 6 _ rfl⟩
   · rw [if_neg h1,if_neg h1]; exact .inl ⟨rfl,rfl⟩
 · unfold xP1
   rw [hpL2,hpL2]
   by_cases h1:k=1048577
   · rw [if_pos h1,if_pos h1]; exact .inr ⟨_,_,rfl,rfl,rfl,zait 6 1048578 0 (q.2.out.map xE).length [0,1] [.lst false 3 (ts.map encT),i0 (plc ts q.2),i0 q.2.deep] [i0 (badE q.2),i0 (badP q.2)]⟩
   · rw [if_neg h1,if_neg h1]
     by_cases h2:k=1048578
     · rw [if_pos h2]; exact .inr ⟨_,_,rfl,rfl,rfl,fun _ _ _ => .rfl⟩
     · rw [if_neg h2]; exact .inl ⟨rfl,rfl⟩
 · unfold xP0 xP1
   have n1:l≠1048577:=by rintro rfl; exact hl (by simp)
   have n2:l≠1048578:=by rintro rfl; exact hl (by simp)
   rw [hpL1,hpL2,if_neg n1,if_neg n2,if_neg n1]
 · unfold xP0 at he
   unfold xP1
   rw [hpL1] at he
   rw [hpL2]
   by_cases h1:l=1048577
   · rw [if_pos h1]; exact ⟨_,rfl⟩
   · rw [if_neg h1] at he; cases he
attribute [local irreducible] runF in
set_option maxRecDepth 100000 in
theorem xpFn {X:WX}(hX:X.Sound)(hp:X.px=X0∨X.px=X0P){os:Orc}{fz:Nat}{s:ByteArray}{x:AV}(g:gXP X os fz s x):F zabe [s0 s] x:=by
 have hP:X.px.P=Tryz.prog:=by rcases hp with hp | hp <;> (rw [hp]; rfl)
 have hg:X.px.gl=gl0:=by rcases hp with hp | hp <;> (rw [hp]; rfl)
 have:=zadS (X:=X.ask (fXCut::askX)) (d:=14) (hX.ask _) (f:=zabe) (fn:=fn zabe) (code:=code zabe) (by show X.px.P.funcs[zabe]?=_; rw [hP]; exact fnOk zabe (by kernel_rfl)) (show (fn zabe).body=some (code zabe) by kernel_rfl) (by kernel_rfl) g
 show FOk Tryz.prog gl0 zabe _ _ _
 rw [<-hg,<-hP]; exact this
def zavS (s:ByteArray):ParR->Prop
 | .long=>F zabe [s0 s] (.tup [zajp,i0 5,i0 0])
 | .bad k a=>F zabe [s0 s] (.tup [zajp,i0 k,i0 a])/\k≠0
 | .ok n=>∃ (l:List RN) (p:Nat),l.length=p+1/\l.length<=1000000/\Few l/\Rep l p n/\F zabe [s0 s] (.tup [.agg [.lst false 5 (l.map xE)],i0 0,i0 0])
theorem zamL {s:ByteArray}{ts:List Tk}(h:lexS s = .ok ts):ts.length<=1000000/\∀ t∈ts,t.text.size<=1000000:=by
 unfold lexS at h
 by_cases hs:600<s.size
 · rw [if_pos hs] at h; cases h
 · rw [if_neg hs] at h
   have hg:=zanU s (by omega) s.size 0 []
   have hn:=zadz s s.size 0 []
   generalize lexG s s.size 0 []=R at h hg hn
   obtain ⟨_ | j,us⟩:=R
   · cases h
     have h1:=hn us (Int.le_refl _) (by omega) rfl
     have h0:((([]:List Tk).length:Nat):Int)=0:=rfl
     refine ⟨by rw [List.length_append,List.length_singleton]; omega,fun t ht => ?_⟩
     rcases List.mem_append.1 ht with ht | ht
     · have:=(hg us (fun t ht=>by cases ht) rfl t ht).2; omega
     · rw [List.mem_singleton] at ht; subst ht; exact Nat.zero_le _
   · cases h
theorem zako {s:ByteArray}{r:AV}(h:F zabd [s0 s] r):zagn Tryz.prog gl0 zabd (Sp.con [spLx s r]):=zaoa (s:=spLx s r) fun _ _=>h
set_option maxRecDepth 100000 in
theorem zal2 (s:ByteArray):zavS s (zakE s):=by
 have hl:=zaqY s
 have ho:=@zanT s
 have hz:=@zamL s
 unfold zakE
 generalize lexS s=L at hl ho hz
 cases L with
 | long =>
  refine xpFn ((zaqG.add (zako hl))) (.inr rfl) (os:=Orc.t Orc.z) (fz:=0) (show gXPL _ s 5 0 from ?_)
  rw [zan0]; exact ⟨(),⟨trivial, .refl _,rfl⟩,rfl, .tup (.cons (.agg (.cons .nilS .nil)) (.refl _)), .rfl⟩
 | bad i =>
  refine ⟨xpFn ((zaqG.add (zako hl))) (.inr rfl) (os:=Orc.t Orc.z) (fz:=0) (show gXPL _ s 15 i from ?_),by decide⟩
  rw [zan0]; exact ⟨(),⟨trivial, .refl _,rfl⟩,rfl, .tup (.cons (.agg (.cons .nilS .nil)) (.refl _)), .rfl⟩
 | ok ts =>
  have hts:=ho rfl
  obtain ⟨hlen,hsz⟩:=hz rfl
  show zavS s (zamy (PF (5*ts.length+5) .expr 0 ts))
  have hI:XInv ts ⟨ts,0,[],none⟩:=⟨List.suffix_refl _,hts,(fun p hp=>by cases hp),Int.le_refl _,by show (0:Int)<=26; decide,by omega,by show 0+ts.length<=_; omega⟩
  have hx:=zawg hsz (5*ts.length+5) .expr ⟨ts,0,[],none⟩ hI rfl (by show (0:Int)<=24; decide) (Nat.le_refl _)
  have hag:=zajN (5*ts.length+5) .expr ⟨ts,0,[],none⟩ hts rfl (by show (0:Int)<=24; decide) (Nat.le_refl _)
  have hri:=zadq (5*ts.length+5) .expr ⟨ts,0,[],none⟩ hts (fun p hp=>by cases hp)
  have hfw:=zadK (5*ts.length+5) .expr ⟨ts,0,[],none⟩ (fun p hp=>by cases hp)
  unfold LvOk at hx
  rw [zaby (s:=⟨ts,0,[],none⟩) rfl,show ((ts.length:Int)-((⟨ts,0,[],none⟩:RS).ts.length:Nat))=0 from Int.sub_self _] at hx
  change Agree _ (PF (5*ts.length+5) .expr 0 ts) _ at hag
  generalize RP (5*ts.length+5) .expr ⟨ts,0,[],none⟩=q at hx hag hri hfw
  generalize PF (5*ts.length+5) .expr 0 ts=r at hag
  have hE:=zawj hx
  have hqI:XInv ts q.2:=hI.of_RI (by show (0:Int)<=24; decide) hri
  have hb0:=zaqG.add (zako (s:=s) hl)
  rcases zabL hag with ⟨x,e1,e2⟩ | ⟨e1,xs,e2,e3⟩
  · have hne:=hqI.bad x e2
    have hbE:badE q.2=x.1:=by unfold badE; rw [e2]
    have hbP:badP q.2=x.2:=by unfold badP; rw [e2]
    have:zamy r = .bad x.1 x.2:=by unfold zamy; rw [e1]
    rw [this]
    rw [hbE,hbP] at hE
    refine ⟨xpFn (hb0.add (Sp.one (s:=spPE (ts.map encT) q.1 (plc ts q.2) q.2.deep (q.2.out.map xE) x.1 x.2) fun _ _=>hE)) (.inr rfl) (os:=(Orc.f (Orc.f (Orc.f (Orc.f (Orc.f (Orc.t Orc.z))))))) (fz:=0) (show gXPB _ s (ts.map encT) q.1 (plc ts q.2) q.2.deep (q.2.out.map xE) x.1 x.2 from ?_),hne⟩
    rw [zato]
    exact ⟨(),⟨trivial, .refl _,rfl⟩,rfl,(),⟨trivial, .refl _,rfl⟩,beq_eq_false_iff_ne.2 hne,rfl,rfl,rfl,bne_iff_ne.2 hne, .tup (.cons (.agg (.cons .nilS .nil)) (.refl _)), .rfl⟩
  · have hqb:q.2.bad=none:=by rw [e2]
    have hqt:q.2.ts=r.ts:=by rw [e2]
    rw [(bad0 hqb).1,(bad0 hqb).2] at hE
    have hb1:=hb0.add (f:=zaan) (Sp.one (s:=spPE (ts.map encT) q.1 (plc ts q.2) q.2.deep (q.2.out.map xE) 0 0) fun _ _=>hE)
    by_cases hk:(zaac r.ts).kind=11
    · have hp:zamy r = .ok r.n:=by unfold zamy; rw [e1]; exact if_pos hk
      rw [hp]
      have hi:isR 11 q.2=true:=by rw [zabb hqb,hqt]; exact decide_eq_true hk
      have hlt:q.1<xs.length:=e3.lt
      have hxs:q.2.out=xs:=by rw [e2]; rfl
      have hlo:=hqI.lo
      rw [hxs] at hlo hb1
      refine ⟨xs.take (q.1+1),q.1,by rw [List.length_take]; omega,by rw [List.length_take]; omega,fun x hx=>hfw x (by rw [hxs]; exact List.mem_of_mem_take hx),e3.take (Nat.lt_succ_self _),?_⟩
      have hIs:=zajV hqI hqb hi
      rw [hxs] at hIs
      refine xpFn (hb1.add (con1 hIs)) (.inr rfl) (os:=(Orc.f (Orc.t (Orc.t (Orc.t (Orc.f (Orc.f Orc.z))))))) (fz:=1) ?_
      have e4:(xs.take (q.1+1)).map xE=(xs.map xE).take ((q.1:Int)+1).toNat:=by rw [List.map_take]; congr 1
      rw [e4]
      show gXPY _ s (ts.map encT) q.1 (plc ts q.2) q.2.deep (xs.map xE)
      have lm:(xs.map xE).length=xs.length:=List.length_map ..
      rw [zatm]
      refine ⟨(),⟨trivial, .refl _,rfl⟩,rfl,(),⟨trivial, .refl _,rfl⟩,rfl,rfl,(),⟨trivial, .refl _,rfl⟩,rfl,rfl,rfl,zaao (by omega) (by omega),?_,?_,?_,?_,?_,?_,?_, .rfl⟩
      · rw [decide_eq_true ⟨Int.le_refl _,by show (0:Int)<=(q.1:Int)+1; omega,by show (q.1:Int)+1<=_; omega⟩]; rfl
      · show 0+((q.1:Int)+1-0).toNat<=_; omega
      · show 0+((q.1:Int)+1-0).toNat<=_; omega
      · show 0+((q.1:Int)+1-0).toNat<=_; omega
      · omega
      · omega
      · rw [List.drop_zero,show Int.toNat (Option.getD (some ((q.1:Int)+1)) ((xs.map xE).length:Int)-0)=((q.1:Int)+1).toNat from by show ((q.1:Int)+1-0).toNat=_; omega]; exact .refl _
    · have hp:zamy r = .bad 15 (zaac r.ts).at_:=by unfold zamy; rw [e1]; exact if_neg hk
      rw [hp]
      have hi:isR 11 q.2=false:=by rw [zabb hqb,hqt]; exact decide_eq_false hk
      have hF:=zajW hqI hqb
      have hfb:=zabD hqb 15
      have hbE:badE (zaaW 15 q.2)=15:=by unfold badE; rw [hfb]
      have hbP:badP (zaaW 15 q.2)=(zaac r.ts).at_:=by unfold badP; rw [hfb,hqt]
      rw [hbE,hbP] at hF
      refine ⟨xpFn ((hb1.add (con1 (zajV hqI hqb hi))).add (con1 hF)) (.inr rfl) (os:=(Orc.f (Orc.t (Orc.t (Orc.t (Orc.t (Orc.t Orc.z))))))) (fz:=0) (show gXPN _ s (ts.map encT) q.1 (plc ts q.2) q.2.deep (q.2.out.map xE) 15 (zaac r.ts).at_ from ?_),by decide⟩
      rw [zatn]
      exact ⟨(),⟨trivial, .refl _,rfl⟩,rfl,(),⟨trivial, .refl _,rfl⟩,rfl,rfl,(),⟨trivial, .refl _,rfl⟩,rfl,rfl,(),⟨trivial, .refl _,rfl⟩,rfl, .tup (.cons (.agg (.cons .nilS .nil)) (.refl _)), .rfl⟩
end
end Go.Proofs.YtpofhijgccocpaaGreatDoor
end
