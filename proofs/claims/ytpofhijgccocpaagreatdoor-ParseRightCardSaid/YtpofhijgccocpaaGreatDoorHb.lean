/- Parts of the proof of ParseRight. -/
import Derived.Test.YtpofhijgccocpaaGreatDoorHa
import Derived.Lib.ItoaNum
section
namespace Go.Proofs.YtpofhijgccocpaaGreatDoor
open Go.AS Go.TP
noncomputable section
theorem con1 {f:Nat}{ys:List AV}{σ:Hp}{r:Back}(h:FOk Tryz.prog gl0 f (xArg::ys) σ r):zagn Tryz.prog gl0 f (Sp.con [spX ys σ r]) :=
 Sp.ok fun s hs i _=>by rw [List.mem_singleton] at hs; subst hs; exact h
theorem zall (e:Int)(s:RS):(zaaW e s).ts=s.ts/\(zaaW e s).deep=s.deep/\(zaaW e s).out=s.out:=by
 unfold zaaW; split <;> exact ⟨rfl,rfl,rfl⟩
theorem zaci (c:Nat)(all:List Tk)(e:Int)(s:RS):xS c all (zaaW e s)=xHp c (all.map encT) ((all.length:Int)-s.ts.length) s.deep (s.out.map xE) (badE (zaaW e s)) (badP (zaaW e s)):=by
 obtain ⟨h1,h2,h3⟩:=zall e s
 unfold xS; rw [h1,h2,h3]
theorem zagp {all:List Tk}{s:RS}(h:XInv all s)(hk:(zaac s.ts).kind≠11):(all.length:Int)-(zaas s.ts).length=(all.length:Int)-s.ts.length+1:=by
 have hne:=zakM h.ok
 cases hts:s.ts with
 | nil=>exact absurd hts hne
 | cons t r =>
  rw [hts] at hk
  have:zaas (t::r)=r:=if_neg hk
  rw [this]
  simp only [List.length_cons]; omega
theorem x_in {all:List Tk}{s:RS}(h:XInv all s):inR .i64 ((all.length:Int)-s.ts.length+1)=true:=by
 obtain ⟨_,t2,t3⟩:=zal4 h (.lit undef)
 rw [List.length_map] at t3
 have:=h.la
 exact zaao (by omega) (by omega)
attribute [local irreducible] runF in
set_option maxRecDepth 100000 in
theorem zahj {all:List Tk}{s:RS}(h:XInv all s)(hk:(zaac s.ts).kind≠11):FOk Tryz.prog gl0 zaaq [xArg] (xS 0 all s) ⟨b0 (downR s).1,xS 0 all (downR s).2,[1048578]⟩:=by
 by_cases hd:24<=s.deep
 · have e:downR s=(false,zaaW 16 s):=if_pos hd
   have hc:=zahi h 16
   rw [zaci] at hc
   rw [e]
   show FOk _ _ _ _ _ ⟨b0 false,xS 0 all (zaaW 16 s),_⟩
   rw [zaci]
   have q:zaq5 _ _ _ _ _ _ _ _ _:=(zam (all.map encT) ((all.length:Int)-s.ts.length) s.deep (s.out.map xE) (badE s) (badP s) (badE (zaaW 16 s)) (badP (zaaW 16 s))).mpr
     ⟨decide_eq_true hd,(),⟨trivial, .refl _,rfl⟩, .refl _, .rfl⟩
   exact zamV ((zabg.add (con1 hc)).ask _) rfl (by kernel_rfl) (by kernel_rfl) (by kernel_rfl) q
 · have e:downR s=(true,{ s with deep:=s.deep+1,ts:=zaas s.ts }):=if_neg hd
   rw [e]
   have h0:=h.d0
   have q:zaq4 _ _ _ _ _ _ _:=(zal9 (all.map encT) ((all.length:Int)-s.ts.length) s.deep (s.out.map xE) (badE s) (badP s)).mpr
     ⟨decide_eq_false hd,zaao (by omega) (by omega),x_in h, .refl _, .rfl⟩
   have g:=zamV (zabg.ask _) rfl (by kernel_rfl) (by kernel_rfl) (by kernel_rfl) q
   show FOk _ _ _ _ _ ⟨b0 true,xHp 0 _ ((all.length:Int)-(zaas s.ts).length) (s.deep+1) _ _ _,_⟩
   rw [zagp h hk]
   exact g
attribute [local irreducible] runF in
set_option maxRecDepth 100000 in
theorem zaoi {all:List Tk}{s:RS}(h:XInv all s)(c:Int)(hc:c≠11):FOk Tryz.prog gl0 zabp [xArg,i0 c] (xS 0 all s) ⟨b0 (zabs c s).1,xS 0 all (zabs c s).2,[1048578]⟩:=by
 have hf:=zahi h 15
 rw [zaci] at hf
 have hi:=zaon h c
 have hX:=(zabg.add (con1 hf)).add (con1 hi)
 cases hb:isR c s with
 | true =>
  have e:zabs c s=(true,zaaB s):=by unfold zabs; rw [hb]; rfl
  rw [e]
  have hk:(zaac s.ts).kind≠11:=by
   unfold isR at hb
   rw [Bool.and_eq_true,decide_eq_true_iff] at hb
   rw [hb.2]; exact hc
  rw [hb] at hX
  have q:zaq0 _ _ _ _ _ _ _ _ _ _:=(zal6 (all.map encT) ((all.length:Int)-s.ts.length) s.deep (s.out.map xE) (badE s) (badP s) (badE (zaaW 15 s)) (badP (zaaW 15 s)) c).mpr
   ⟨(),⟨trivial, .refl _,rfl⟩,rfl,x_in h, .refl _, .rfl⟩
  have g:=zamV (hX.ask _) rfl (by kernel_rfl) (by kernel_rfl) (by kernel_rfl) q
  show FOk _ _ _ _ _ ⟨b0 true,xHp 0 _ ((all.length:Int)-(zaas s.ts).length) s.deep _ _ _,_⟩
  rw [zagp h hk]
  exact g
 | false =>
  have e:zabs c s=(false,zaaW 15 s):=by unfold zabs; rw [hb]; rfl
  rw [e]
  rw [hb] at hX
  show FOk _ _ _ _ _ ⟨b0 false,xS 0 all (zaaW 15 s),_⟩
  rw [zaci]
  have q:zaq1 _ _ _ _ _ _ _ _ _ _:=(zal7 (all.map encT) ((all.length:Int)-s.ts.length) s.deep (s.out.map xE) (badE s) (badP s) (badE (zaaW 15 s)) (badP (zaaW 15 s)) c).mpr
   ⟨(),⟨trivial, .refl _,rfl⟩,rfl,(),⟨trivial, .refl _,rfl⟩, .refl _, .rfl⟩
  exact zamV (hX.ask _) rfl (by kernel_rfl) (by kernel_rfl) (by kernel_rfl) q
attribute [local irreducible] runF in
set_option maxRecDepth 100000 in
theorem zajZ {all:List Tk}{s:RS}(h:XInv all s)(n:RN):FOk Tryz.prog gl0 zabG [xArg,xE n] (xS 0 all s) ⟨i0 (addR n s).1,xS 1 all (addR n s).2,[1048577,1048578]⟩:=by
 have hl:=h.lo
 have hm:(s.out.map xE).length=s.out.length:=List.length_map ..
 have q:xAdd _ _ _ _ _ _ _ _ _ _ _ _:=(zaq6 (all.map encT) ((all.length:Int)-s.ts.length) s.deep (s.out.map xE) (badE s) (badP s) n.kind n.at_ n.n n.text (n.kids.map fun j:Nat=>i0 (j:Int))).mpr (by
  try dsimp only
  rw [List.drop_zero,List.take_length]
  have el:∀ z:AV,(s.out.map xE++[z]).length=s.out.length+1:=fun z=>by rw [List.length_append,hm]; rfl
  have ei:((s.out.length+1:Nat):Int)-1=(s.out.length:Int):=by push_cast; omega
  rw [el,ei,hm]
  refine ⟨?_,zaao (by omega) (by omega), .refl _,?_⟩
  · rw [Nat.zero_add,decide_eq_true (by constructor <;> omega)]
    have:Nat.ble s.out.length s.out.length=true:=Nat.ble_eq_true_of_le (Nat.le_refl _)
    rw [this]; rfl
  · rw [<-hm]; exact .rfl)
 have g:=zamV zaxD rfl (by kernel_rfl) (by kernel_rfl) (by kernel_rfl) q
 show FOk _ _ _ _ _ ⟨i0 (s.out.length:Int),xHp 1 _ _ _ ((s.out++[n]).map xE) _ _,_⟩
 rw [List.map_append,<-hm]
 exact g
end
end Go.Proofs.YtpofhijgccocpaaGreatDoor
end
section
namespace Go.Proofs.YtpofhijgccocpaaGreatDoor
open Go.AS Go.TP
noncomputable section
def gZ (X:WX)(f:Nat)(os:Orc)(ys:List AV)(σ:Hp)(r:Back):Prop:=runF X 14 f (fn f) (code f) os 0 [1048577] (xArg::ys) σ r
abbrev spI (c:Int)(b:Bool)(σ:Hp):Sp:=spX [i0 c] σ ⟨b0 b,σ,[]⟩
abbrev spD (b:Bool)(σ τ:Hp):Sp:=spX [] σ ⟨b0 b,τ,[1048578]⟩
abbrev spV (v:Int)(σ τ:Hp):Sp:=spX [] σ ⟨i0 v,τ,[1048577,1048578]⟩
abbrev spA (n:AV)(v:Int)(σ τ:Hp):Sp:=spX [n] σ ⟨i0 v,τ,[1048577,1048578]⟩
def XQn (X:WX)(f:Nat)(ds:List Nat):WX:=(X.ask askX).askAt f ds
def gPaR (os:Orc)(ts:List AV)(k d:Int)(xs:List AV)(k' d':Int)(xs':List AV)(bad' pl' v:Int):Prop :=
 gZ (XQn ((XB.add fXIs (Sp.con [spI 10 false (xHp 0 ts k d xs 0 0)])).add zaat (Sp.con [spV v (xHp 0 ts k d xs 0 0) (xHp 1 ts k' d' xs' bad' pl')])) zaaR [17,19]) zaaR os [] (xHp 0 ts k d xs 0 0) ⟨i0 v,xHp 1 ts k' d' xs' bad' pl',[1048577,1048578]⟩
def gPaN (os:Orc)(ts:List AV)(k d:Int)(xs:List AV)(bad' pl':Int):Prop :=
 runF (XQn ((XB.add fXIs (Sp.con [spI 10 true (xHp 0 ts k d xs 0 0)])).add zaaq (Sp.con [spD false (xHp 0 ts k d xs 0 0) (xHp 0 ts k d xs bad' pl')])) zaaR [17,19]) 14 zaaR (fn zaaR) (code zaaR) os 0 [] [xArg] (xHp 0 ts k d xs 0 0) ⟨i0 0,xHp 0 ts k d xs bad' pl',[1048577,1048578]⟩
def gPaY (os:Orc)(ts:List AV)(k d:Int)(xs:List AV)(k1:Int)(k2 d2:Int)(xs2:List AV)(bad2 pl2 v a:Int):Prop :=
 gZ (XQn ((((XB.add fXIs (Sp.con [spI 10 true (xHp 0 ts k d xs 0 0)])).add zaaq (Sp.con [spD true (xHp 0 ts k d xs 0 0) (xHp 0 ts k1 (d+1) xs 0 0)])).add zaaR (Sp.con [spV v (xHp 0 ts k1 (d+1) xs 0 0) (xHp 1 ts k2 d2 xs2 bad2 pl2)])).add zabG (Sp.con [spA (rgV 5 a 0 ByteArray.empty [i0 v]) xs2.length (xHp 0 ts k2 (d2-1) xs2 bad2 pl2) (xHp 1 ts k2 (d2-1) (xs2++[rgV 5 a 0 ByteArray.empty [i0 v]]) bad2 pl2)])) zaaR [17,19])
  zaaR os [] (xHp 0 ts k d xs 0 0) ⟨i0 xs2.length,xHp 1 ts k2 (d2-1) (xs2++[rgV 5 a 0 ByteArray.empty [i0 v]]) bad2 pl2,[1048577,1048578]⟩
end
end Go.Proofs.YtpofhijgccocpaaGreatDoor
end
section
namespace Go.Proofs.YtpofhijgccocpaaGreatDoor
open Go.AS Go.TP
noncomputable section
def X0P:PX:={ X0 with own:=fun f d=>Nat.beq f zabe&&Nat.beq d 23 }
theorem zars:X0P.Sound:=by
 refine ⟨zajj.1,zajj.2,fun f g h => ?_⟩
 have h:bsel (Nat.beq f zabH) (some (pureX Tryz.prog Extern.BytealgIndexByte.indexByte)) none=some g:=h
 cases hb:Nat.beq f zabH
 · rw [hb,zaaO] at h; cases h
 · rw [hb,zaa2] at h; cases h
   obtain rfl:=Nat.eq_of_beq_eq_true hb
   exact zahu (C:=cx X0P zabH fun _ _ _ _ _=>none) zapO
def XBP:WX:=WX.base X0P
theorem zaqG:XBP.Sound := .base zars
def xP0 (ts:List AV):Hp:=hpL [(1048577,⟨[0,0], .row true 6 [.agg [.lst false 3 ts,i0 0,i0 0, .agg [.lit (.slice none 0 0)],i0 0,i0 0]]⟩)]
def xP1 (ts:List AV)(k d:Int)(xs:List AV)(bad pl:Int):Hp:=hpL [(1048577,⟨[0,0], .row false 6 [.agg [.lst false 3 ts,i0 k,i0 d, .agg [.slc 1048578 [0,1] 0 xs.length],i0 bad,i0 pl]]⟩),(1048578,⟨[0,1], .row true 5 xs⟩)]
def xHpN (ts:List AV)(k d:Int)(xs:List AV)(bad pl:Int):Hp:=hpL [(1048577,⟨[0,0], .row true 5 xs⟩),(1048578,⟨[1,0], .row false 6 [xRow ts k d (.agg [xSl 0 xs.length]) bad pl]⟩)]
abbrev spPE (ts:List AV)(v k d:Int)(xs:List AV)(bad pl:Int):Sp:=⟨Unit,fun _=>True,fun _=>[.ptr 1048577 [0,0] 0 0],fun _=>xP0 ts,fun _=>⟨i0 v,xP1 ts k d xs bad pl,[1048577,1048578]⟩⟩
abbrev spLx (s:ByteArray)(r:AV):Sp := .pure Unit (fun _=>True) (fun _=>[s0 s]) (fun _=>r)
def gXP (X:WX)(os:Orc)(fz:Nat)(s:ByteArray)(r:AV):Prop:=runF (X.ask (fXCut::askX)) 14 zabe (fn zabe) (code zabe) os fz [] [s0 s] .nil ⟨r, .nil,[]⟩
abbrev zajp:AV := .agg [.lst false 5 []]
def gXPL (os:Orc)(s:ByteArray)(e i:Int):Prop:=gXP (XBP.add zabd (Sp.con [spLx s (.tup [.lst false 3 [],i0 e,i0 i])])) os 0 s (.tup [zajp,i0 e,i0 i])
def gXPB (os:Orc)(s:ByteArray)(ts:List AV)(v k d:Int)(xs:List AV)(bad pl:Int):Prop :=
 gXP ((XBP.add zabd (Sp.con [spLx s (.tup [.lst false 3 ts,i0 0,i0 0])])).add zaan (Sp.con [spPE ts v k d xs bad pl])) os 0 s (.tup [zajp,i0 bad,i0 pl])
def gXPN (os:Orc)(s:ByteArray)(ts:List AV)(v k d:Int)(xs:List AV)(bad pl:Int):Prop :=
 gXP ((((XBP.add zabd (Sp.con [spLx s (.tup [.lst false 3 ts,i0 0,i0 0])])).add zaan (Sp.con [spPE ts v k d xs 0 0])).add fXIs (Sp.con [spI 11 false (xHpN ts k d xs 0 0)])).add zabB (Sp.con [spX [i0 15] (xHpN ts k d xs 0 0) ⟨i0 0,xHpN ts k d xs bad pl,[1048578]⟩])) os 0 s (.tup [zajp,i0 bad,i0 pl])
def gXPY (os:Orc)(s:ByteArray)(ts:List AV)(v k d:Int)(xs:List AV):Prop :=
 gXP (((XBP.add zabd (Sp.con [spLx s (.tup [.lst false 3 ts,i0 0,i0 0])])).add zaan (Sp.con [spPE ts v k d xs 0 0])).add fXIs (Sp.con [spI 11 true (xHpN ts k d xs 0 0)])) os 1 s (.tup [.agg [.lst false 5 (xs.take (v+1).toNat)],i0 0,i0 0])
end
end Go.Proofs.YtpofhijgccocpaaGreatDoor
end
section
namespace Go.Proofs.YtpofhijgccocpaaGreatDoor
open Go.AS Go.TP
noncomputable section
abbrev spQ (xs:List AV)(r:AV):Sp:=⟨Unit,fun _=>True,fun _=>xs,fun _ => .nil,fun _=>⟨r, .nil,[]⟩⟩
abbrev fTop:Nat:=14
end
end Go.Proofs.YtpofhijgccocpaaGreatDoor
end
section
namespace Go.Proofs.YtpofhijgccocpaaGreatDoor
open Go.AS Go.TP
noncomputable section
noncomputable def X0K:PX:={ X0 with own:=fun _ _=>true }
theorem zart:X0K.Sound:=⟨by kernel_rfl,zajj.gl,fun f g h=>by
  have h:bsel (Nat.beq f zabH) (some (pureX Tryz.prog Extern.BytealgIndexByte.indexByte)) none=some g:=h
  cases hb:Nat.beq f zabH
  · rw [hb,zaaO] at h; cases h
  · rw [hb,zaa2] at h; cases h
    obtain rfl:=Nat.eq_of_beq_eq_true hb
    exact zahu (C:=cx X0K zabH fun _ _ _ _ _=>none) zapO⟩
theorem zaAS {f n:Nat}{xs:List AV}{x:AV}(h:zaxu (S X0K n f xs 1 .nil [])=some x):F f xs x:=by
 cases hs:S X0K n f xs 1 .nil [] with
 | none=>rw [hs] at h; cases h
 | some r =>
  obtain ⟨y,c,σ,ws⟩:=r
  rw [hs] at h
  have h:some y=some x:=h
  cases h
  refine FOk.drop (σ:=σ) (ws:=ws) ?_
  intro E w vals hg hh hf _ hv
  obtain ⟨h1,h2⟩:=S_ok zart n f xs 1 .nil [] x c σ ws hs
  refine (h2 E w vals hg hh hf hv).imp ?_
  rintro v w' ⟨E',k1,k2,k3,_⟩
  exact ⟨.z,_,E',rfl,⟨fun l hl=>(h1.same l hl).2,h1.keep⟩,k1,k2,k3⟩
theorem zapL:F zalq [] (b0 true):=zaAS (n:=1000) (by kernel_rfl)
end
end Go.Proofs.YtpofhijgccocpaaGreatDoor
end
section
namespace Go.Proofs.YtpofhijgccocpaaGreatDoor
open Go.AS Go.TP
noncomputable section
abbrev zaa1:Nat:=13
abbrev tS (n:Nat):AV := .agg [.slc 1048577 [0,0] 0 n]
def rowH (ns:List AV):Hp:=hpL [(1048577,⟨[0,0], .row true 5 ns⟩)]
abbrev spR (ns:List AV)(b:Int)(r:AV):Sp:=⟨Unit,fun _=>True,fun _=>[tS ns.length,i0 b],fun _=>rowH ns,fun _=>⟨r,rowH ns,[]⟩⟩
def XNd (ns:List AV)(ks:List (AV × Int)):WX:=(XB.add zaa1 (Sp.con (ks.map fun q=>spR ns q.2 q.1)))
def gNd (X:WX)(os:Orc)(ns:List AV)(p:Int)(fz:Nat)(r:AV):Prop:=runF ((X.ask [zaa1]).askAt zaa1 [11,12,35,36,39]) 12 zaa1 (fn zaa1) (code zaa1) os fz [] [tS ns.length,i0 p] (rowH ns) ⟨r,rowH ns,[]⟩
def gNd0 (os:Orc)(ns:List AV)(p k a m:Int)(t:ByteArray):Prop:=gNd XB os ns p 0 (nV k a m t [])
def gNd1 (os:Orc)(ns:List AV)(p k a m:Int)(t:ByteArray)(k1 a1 m1:Int)(t1:ByteArray)(v1:List AV)(b:Int):Prop:=gNd (XNd ns [(nV k1 a1 m1 t1 v1,b)]) os ns p 1 (nV k a m t [nV k1 a1 m1 t1 v1])
def gNd2 (os:Orc)(ns:List AV)(p k a m:Int)(t:ByteArray)(k1 a1 m1:Int)(t1:ByteArray)(v1:List AV)(k2 a2 m2:Int)(t2:ByteArray)(v2:List AV)(b c:Int):Prop:=gNd (XNd ns [(nV k1 a1 m1 t1 v1,b),(nV k2 a2 m2 t2 v2,c)]) os ns p 1 (nV k a m t [nV k1 a1 m1 t1 v1,nV k2 a2 m2 t2 v2])
def gNd3 (os:Orc)(ns:List AV)(p k a m:Int)(t:ByteArray)(k1 a1 m1:Int)(t1:ByteArray)(v1:List AV)(k2 a2 m2:Int)(t2:ByteArray)(v2:List AV)(k3 a3 m3:Int)(t3:ByteArray)(v3:List AV)(b c d:Int):Prop :=
 gNd (XNd ns [(nV k1 a1 m1 t1 v1,b),(nV k2 a2 m2 t2 v2,c),(nV k3 a3 m3 t3 v3,d)]) os ns p 1 (nV k a m t [nV k1 a1 m1 t1 v1,nV k2 a2 m2 t2 v2,nV k3 a3 m3 t3 v3])
end
end Go.Proofs.YtpofhijgccocpaaGreatDoor
end
section
namespace Go.Proofs.YtpofhijgccocpaaGreatDoor
open Go.AS Go.TP
noncomputable section
abbrev fPfx:Nat:=42
abbrev fRgt:Nat:=15
abbrev upA (x:ByteArray)(i:Int):List AV:=[s0 x,b0 false,i0 i]
abbrev upO (ex:Ex)(x:ByteArray):Ex × Back:=(ex,⟨.tup [s0 x,b0 false], .nil,[]⟩)
abbrev lpUP (P:Prop)(ex:Ex)(x:ByteArray)(i:Int):Lp:=Lp1 [0,2,3] [] (fun _=>[0,2]) P (upA x i) .nil (upO ex x)
def rUP (os:Orc)(P:Prop)(ex:Ex)(x:ByteArray)(i:Int):Prop:=runL (XB.ask [fPfx]) 8 fPfx (fn fPfx).ntmps (zabw (code fPfx) 0) (lpUP P ex x (i+1)) (lpUP P ex x (i+1)) os 0 [] (upA x i) .nil (upO ex x)
def gUP (os:Orc)(ex:Ex)(x:ByteArray)(b:Bool):Prop:=runF ((XB.addLp fPfx 0 (lpUP True ex x 0)).ask [fPfx]) 10 fPfx (fn fPfx) (code fPfx) os 0 [] [s0 x] .nil ⟨b0 b, .nil,[]⟩
def gUPE (os:Orc)(x:ByteArray)(b:Bool):Prop:=gUP os (.exit 0) x b
def gUPR (os:Orc)(x:ByteArray):Prop:=gUP os .ret x false
end
end Go.Proofs.YtpofhijgccocpaaGreatDoor
end
section
namespace Go.Proofs.YtpofhijgccocpaaGreatDoor
open Go.AS Go.TP
noncomputable section
abbrev spRk (ns:List AV)(ks:List (Bool × Int)):Sp:=⟨Bool × Int,fun q=>q∈ks,fun q=>[tS ns.length,i0 q.2],fun _=>rowH ns,fun q=>⟨b0 q.1,rowH ns,[]⟩⟩
abbrev spPf:Sp := .pure ByteArray (fun x=>x.size<=1000000) (fun x=>[s0 x]) (fun x=>b0 (zaar x))
def XRk (ns:List AV)(ks:List (Bool × Int)):WX:=(((XB.add fPfx (Sp.con [spPf])).add fRgt (Sp.con [spRk ns ks])).ask [fRgt]).askAt fRgt [13,14,89,90]
def gRk (os:Orc)(ns:List AV)(p:Int)(ks:List (Bool × Int))(b:Bool):Prop:=runF (XRk ns ks) 12 fRgt (fn fRgt) (code fRgt) os 0 [] [tS ns.length,i0 p] (rowH ns) ⟨b0 b,rowH ns,[]⟩
def gRg1 (os:Orc)(ns:List AV)(p:Int)(ks:List (Bool × Int))(b:Bool):Prop:=gRk os ns p ks b
def gRg2 (os:Orc)(ns:List AV)(p:Int)(ks:List (Bool × Int))(b:Bool):Prop:=gRk os ns p ks b
def gRg3 (os:Orc)(ns:List AV)(p:Int)(ks:List (Bool × Int))(b:Bool):Prop:=gRk os ns p ks b
def gRg4 (os:Orc)(ns:List AV)(p:Int)(ks:List (Bool × Int))(b:Bool):Prop:=gRk os ns p ks b
def gRg8 (os:Orc)(ns:List AV)(p:Int)(ks:List (Bool × Int))(b:Bool):Prop:=gRk os ns p ks b
def gRg9 (os:Orc)(ns:List AV)(p:Int)(ks:List (Bool × Int))(b:Bool):Prop:=gRk os ns p ks b
def gRg5 (os:Orc)(ns:List AV)(p:Int)(ks:List (Bool × Int))(b:Bool):Prop:=gRk os ns p ks b
def gRg6 (os:Orc)(ns:List AV)(p:Int)(ks:List (Bool × Int))(b:Bool):Prop:=gRk os ns p ks b
def gRg7 (os:Orc)(ns:List AV)(p:Int)(ks:List (Bool × Int))(b:Bool):Prop:=gRk os ns p ks b
def zan2 (os:Orc)(ns:List AV)(p:Int)(ks:List (Bool × Int))(b:Bool):Prop:=gRk os ns p ks b
def zak9 (os:Orc)(ns:List AV)(p:Int)(ks:List (Bool × Int))(b:Bool):Prop:=gRk os ns p ks b
def zagZ (os:Orc)(ns:List AV)(p:Int)(ks:List (Bool × Int))(b:Bool):Prop:=gRk os ns p ks b
def zafv (os:Orc)(ns:List AV)(p:Int)(ks:List (Bool × Int))(b:Bool):Prop:=gRk os ns p ks b
def zaeJ (os:Orc)(ns:List AV)(p:Int)(ks:List (Bool × Int))(b:Bool):Prop:=gRk os ns p ks b
def zan1 (os:Orc)(ns:List AV)(p:Int)(ks:List (Bool × Int))(b:Bool):Prop:=gRk os ns p ks b
def zala (os:Orc)(ns:List AV)(p:Int)(ks:List (Bool × Int))(b:Bool):Prop:=gRk os ns p ks b
def zaiV (os:Orc)(ns:List AV)(p:Int)(ks:List (Bool × Int))(b:Bool):Prop:=gRk os ns p ks b
def zaiT (os:Orc)(ns:List AV)(p:Int)(ks:List (Bool × Int))(b:Bool):Prop:=gRk os ns p ks b
def zaiW (os:Orc)(ns:List AV)(p:Int)(ks:List (Bool × Int))(b:Bool):Prop:=gRk os ns p ks b
def zal (os:Orc)(ns:List AV)(p:Int)(ks:List (Bool × Int))(b:Bool):Prop:=gRk os ns p ks b
def zaiU (os:Orc)(ns:List AV)(p:Int)(ks:List (Bool × Int))(b:Bool):Prop:=gRk os ns p ks b
def gRgU (os:Orc)(ns:List AV)(p:Int)(ks:List (Bool × Int))(b:Bool):Prop:=gRk os ns p ks b
def gRgO (os:Orc)(ns:List AV)(p:Int)(ks:List (Bool × Int))(b:Bool):Prop:=gRk os ns p ks b
end
end Go.Proofs.YtpofhijgccocpaaGreatDoor
end
section
namespace Go.Proofs.YtpofhijgccocpaaGreatDoor
open Go Go.AS Go.TP
def zay7:Orc:=Orc.t (Orc.s (Orc.t (Orc.t (Orc.t (Orc.t Orc.z)))) (Orc.f (Orc.s (Orc.t (Orc.t Orc.z)) (Orc.f (Orc.s Orc.z (Orc.f Orc.z))))))
theorem zauh (ns:List AV)(p:Int)(ks:List (Bool × Int))(b:Bool):gRg1 zay7 ns p ks b=(let z1:=(List.getD ns (0+Int.toNat p) uu); let z2:=(hpL [eR 1048577 [0,0] 5 ns]); let z3:=(↑(List.length (elsA (nthA 4 z1))):Int); (decide ((0:Int)<=p/\p<(↑(List.length ns):Int))&&(true&&Nat.beq 5 5))=true/\(true&&(Nat.ble (0+Int.toNat p+1) (List.length ns)&&zaak (Cx.B (cxV (XRk ns ks) 12 fRgt)) shN 33 z1))=true/\(intA (nthA 0 z1)==1)=true/\∃ (i1:ByteArray),(ByteArray.size i1<=1000000/\Wks [s0 (strA (nthA 3 z1))] [s0 i1]/\hpL []=hpL [])/\(((0:Int) != z3)=true->Yt4 (Wk (b0 false) (b0 b)/\SameH z2 z2))/\(((0:Int) != z3)=false->Nf (((!zaar i1)=true->Yt (Yt (Wk (b0 false) (b0 b)/\SameH z2 z2)))/\((!zaar i1)=false->Nf (((!intA (nthA 2 z1)==0)=true->Wk (b0 false) (b0 b)/\SameH z2 z2)/\((!intA (nthA 2 z1)==0)=false->decide ((0:Int)<z3)=false/\Wk (b0 true) (b0 b)/\SameH z2 z2)))))):=by kernel_rfl
def zay6:Orc:=Orc.f (Orc.t (Orc.t (Orc.s (Orc.t (Orc.t (Orc.t (Orc.t Orc.z)))) (Orc.f (Orc.s (Orc.t (Orc.t Orc.z)) (Orc.f (Orc.s Orc.z (Orc.t (Orc.s Orc.z (Orc.t (Orc.s Orc.z (Orc.f Orc.z))))))))))))
theorem zauf (ns:List AV)(p:Int)(ks:List (Bool × Int))(b:Bool):gRg2 zay6 ns p ks b=(let z1:=(List.getD ns (0+Int.toNat p) uu); let z2:=[eR 1048577 [0,0] 5 ns]; let z3:=(↑(List.length (elsA (nthA 4 z1))):Int); let z4:=AV.agg [AV.slc 1048577 [0,0] 0 (List.length ns)]; let z5:=(Cx.B (cxV (XRk ns ks) 12 fRgt)); let z6:=(elsA (nthA 4 z1)); (decide ((0:Int)<=p/\p<(↑(List.length ns):Int))&&(true&&Nat.beq 5 5))=true/\(true&&(Nat.ble (0+Int.toNat p+1) (List.length ns)&&zaak z5 shN 33 z1))=true/\(intA (nthA 0 z1)==1)=false/\(intA (nthA 0 z1)==2)=true/\Yt ((((2:Int) != z3)=true->Yt4 (Wk (b0 false) (b0 b)/\SameH (hpL z2) (hpL z2)))/\(((2:Int) != z3)=false->Nf (((!ByteArray.toList (strA (nthA 3 z1))==ByteArray.toList ⟨⟨[]⟩⟩)=true->Yt (Yt (Wk (b0 false) (b0 b)/\SameH (hpL z2) (hpL z2))))/\((!ByteArray.toList (strA (nthA 3 z1))==ByteArray.toList ⟨⟨[]⟩⟩)=false->Nf (((!intA (nthA 2 z1)==0)=true->Wk (b0 false) (b0 b)/\SameH (hpL z2) (hpL z2))/\((!intA (nthA 2 z1)==0)=false->decide ((0:Int)<z3)=true/\(decide ((0:Int)<=(0:Int)/\(0:Int)<z3)&&(Nat.beq 1 1&&(zaak z5 shN 3 (List.getD z6 0 uu)&&(false||true))))=true/\∃ (i1:Bool × Int),(i1∈ks/\Wks [z4,i0 (intA (List.getD z6 0 uu))] [z4,i0 (Prod.snd i1)]/\hpL z2=hpL z2)/\((!Prod.fst i1)=true->Wk (b0 false) (b0 b)/\SameH (hpL z2) (hpL z2))/\((!Prod.fst i1)=false->Yt (decide ((1:Int)<z3)=true/\(decide ((0:Int)<=(1:Int)/\(1:Int)<z3)&&(Nat.beq 1 1&&(zaak z5 shN 3 (List.getD z6 1 uu)&&(false||true))))=true/\∃ (i2:Bool × Int),(i2∈ks/\Wks [z4,i0 (intA (List.getD z6 1 uu))] [z4,i0 (Prod.snd i2)]/\hpL z2=hpL z2)/\((!Prod.fst i2)=true->Wk (b0 false) (b0 b)/\SameH (hpL z2) (hpL z2))/\((!Prod.fst i2)=false->Yt (decide ((2:Int)<z3)=false/\Wk (b0 true) (b0 b)/\SameH (hpL z2) (hpL z2)))))))))))):=by kernel_rfl
def zay5:Orc:=Orc.f (Orc.f (Orc.t (Orc.t (Orc.s (Orc.t (Orc.t (Orc.t (Orc.t Orc.z)))) (Orc.f (Orc.s (Orc.t (Orc.t Orc.z)) (Orc.f (Orc.s Orc.z (Orc.t (Orc.s Orc.z (Orc.t (Orc.s Orc.z (Orc.f Orc.z)))))))))))))
theorem zaud (ns:List AV)(p:Int)(ks:List (Bool × Int))(b:Bool):gRg3 zay5 ns p ks b=(let z1:=(List.getD ns (0+Int.toNat p) uu); let z2:=[eR 1048577 [0,0] 5 ns]; let z3:=(↑(List.length (elsA (nthA 4 z1))):Int); let z4:=AV.agg [AV.slc 1048577 [0,0] 0 (List.length ns)]; let z5:=(Cx.B (cxV (XRk ns ks) 12 fRgt)); let z6:=(elsA (nthA 4 z1)); (decide ((0:Int)<=p/\p<(↑(List.length ns):Int))&&(true&&Nat.beq 5 5))=true/\(true&&(Nat.ble (0+Int.toNat p+1) (List.length ns)&&zaak z5 shN 33 z1))=true/\(intA (nthA 0 z1)==1)=false/\(intA (nthA 0 z1)==2)=false/\(intA (nthA 0 z1)==3)=true/\Yt ((((2:Int) != z3)=true->Yt4 (Wk (b0 false) (b0 b)/\SameH (hpL z2) (hpL z2)))/\(((2:Int) != z3)=false->Nf (((!ByteArray.toList (strA (nthA 3 z1))==ByteArray.toList ⟨⟨[]⟩⟩)=true->Yt (Yt (Wk (b0 false) (b0 b)/\SameH (hpL z2) (hpL z2))))/\((!ByteArray.toList (strA (nthA 3 z1))==ByteArray.toList ⟨⟨[]⟩⟩)=false->Nf (((!intA (nthA 2 z1)==0)=true->Wk (b0 false) (b0 b)/\SameH (hpL z2) (hpL z2))/\((!intA (nthA 2 z1)==0)=false->decide ((0:Int)<z3)=true/\(decide ((0:Int)<=(0:Int)/\(0:Int)<z3)&&(Nat.beq 1 1&&(zaak z5 shN 3 (List.getD z6 0 uu)&&(false||true))))=true/\∃ (i1:Bool × Int),(i1∈ks/\Wks [z4,i0 (intA (List.getD z6 0 uu))] [z4,i0 (Prod.snd i1)]/\hpL z2=hpL z2)/\((!Prod.fst i1)=true->Wk (b0 false) (b0 b)/\SameH (hpL z2) (hpL z2))/\((!Prod.fst i1)=false->Yt (decide ((1:Int)<z3)=true/\(decide ((0:Int)<=(1:Int)/\(1:Int)<z3)&&(Nat.beq 1 1&&(zaak z5 shN 3 (List.getD z6 1 uu)&&(false||true))))=true/\∃ (i2:Bool × Int),(i2∈ks/\Wks [z4,i0 (intA (List.getD z6 1 uu))] [z4,i0 (Prod.snd i2)]/\hpL z2=hpL z2)/\((!Prod.fst i2)=true->Wk (b0 false) (b0 b)/\SameH (hpL z2) (hpL z2))/\((!Prod.fst i2)=false->Yt (decide ((2:Int)<z3)=false/\Wk (b0 true) (b0 b)/\SameH (hpL z2) (hpL z2)))))))))))):=by kernel_rfl
def zay4:Orc:=Orc.f (Orc.f (Orc.f (Orc.t (Orc.t (Orc.s (Orc.t (Orc.t (Orc.t (Orc.t Orc.z)))) (Orc.f (Orc.s (Orc.t (Orc.t Orc.z)) (Orc.f (Orc.s Orc.z (Orc.t (Orc.s Orc.z (Orc.t (Orc.s Orc.z (Orc.f Orc.z))))))))))))))
theorem zaub (ns:List AV)(p:Int)(ks:List (Bool × Int))(b:Bool):gRg4 zay4 ns p ks b=(let z1:=(List.getD ns (0+Int.toNat p) uu); let z2:=[eR 1048577 [0,0] 5 ns]; let z3:=(↑(List.length (elsA (nthA 4 z1))):Int); let z4:=AV.agg [AV.slc 1048577 [0,0] 0 (List.length ns)]; let z5:=(Cx.B (cxV (XRk ns ks) 12 fRgt)); let z6:=(elsA (nthA 4 z1)); (decide ((0:Int)<=p/\p<(↑(List.length ns):Int))&&(true&&Nat.beq 5 5))=true/\(true&&(Nat.ble (0+Int.toNat p+1) (List.length ns)&&zaak z5 shN 33 z1))=true/\(intA (nthA 0 z1)==1)=false/\(intA (nthA 0 z1)==2)=false/\(intA (nthA 0 z1)==3)=false/\(intA (nthA 0 z1)==4)=true/\Yt ((((2:Int) != z3)=true->Yt4 (Wk (b0 false) (b0 b)/\SameH (hpL z2) (hpL z2)))/\(((2:Int) != z3)=false->Nf (((!ByteArray.toList (strA (nthA 3 z1))==ByteArray.toList ⟨⟨[]⟩⟩)=true->Yt (Yt (Wk (b0 false) (b0 b)/\SameH (hpL z2) (hpL z2))))/\((!ByteArray.toList (strA (nthA 3 z1))==ByteArray.toList ⟨⟨[]⟩⟩)=false->Nf (((!intA (nthA 2 z1)==0)=true->Wk (b0 false) (b0 b)/\SameH (hpL z2) (hpL z2))/\((!intA (nthA 2 z1)==0)=false->decide ((0:Int)<z3)=true/\(decide ((0:Int)<=(0:Int)/\(0:Int)<z3)&&(Nat.beq 1 1&&(zaak z5 shN 3 (List.getD z6 0 uu)&&(false||true))))=true/\∃ (i1:Bool × Int),(i1∈ks/\Wks [z4,i0 (intA (List.getD z6 0 uu))] [z4,i0 (Prod.snd i1)]/\hpL z2=hpL z2)/\((!Prod.fst i1)=true->Wk (b0 false) (b0 b)/\SameH (hpL z2) (hpL z2))/\((!Prod.fst i1)=false->Yt (decide ((1:Int)<z3)=true/\(decide ((0:Int)<=(1:Int)/\(1:Int)<z3)&&(Nat.beq 1 1&&(zaak z5 shN 3 (List.getD z6 1 uu)&&(false||true))))=true/\∃ (i2:Bool × Int),(i2∈ks/\Wks [z4,i0 (intA (List.getD z6 1 uu))] [z4,i0 (Prod.snd i2)]/\hpL z2=hpL z2)/\((!Prod.fst i2)=true->Wk (b0 false) (b0 b)/\SameH (hpL z2) (hpL z2))/\((!Prod.fst i2)=false->Yt (decide ((2:Int)<z3)=false/\Wk (b0 true) (b0 b)/\SameH (hpL z2) (hpL z2)))))))))))):=by kernel_rfl
def zay0:Orc:=HF (Orc.t (Orc.t (Orc.s (Orc.t (Orc.t (Orc.t (Orc.t Orc.z)))) (Orc.f (Orc.s (Orc.t (Orc.t Orc.z)) (Orc.f (Orc.s Orc.z (Orc.t (Orc.s Orc.z (Orc.t (Orc.s Orc.z (Orc.f Orc.z))))))))))))
theorem zat4 (ns:List AV)(p:Int)(ks:List (Bool × Int))(b:Bool):gRg8 zay0 ns p ks b=(let z1:=(List.getD ns (0+Int.toNat p) uu); let z2:=[eR 1048577 [0,0] 5 ns]; let z3:=(↑(List.length (elsA (nthA 4 z1))):Int); let z4:=AV.agg [AV.slc 1048577 [0,0] 0 (List.length ns)]; let z5:=(Cx.B (cxV (XRk ns ks) 12 fRgt)); let z6:=(elsA (nthA 4 z1)); (decide ((0:Int)<=p/\p<(↑(List.length ns):Int))&&(true&&Nat.beq 5 5))=true/\(true&&(Nat.ble (0+Int.toNat p+1) (List.length ns)&&zaak z5 shN 33 z1))=true/\(intA (nthA 0 z1)==1)=false/\(intA (nthA 0 z1)==2)=false/\(intA (nthA 0 z1)==3)=false/\(intA (nthA 0 z1)==4)=false/\(intA (nthA 0 z1)==8)=true/\Yt ((((2:Int) != z3)=true->Yt4 (Wk (b0 false) (b0 b)/\SameH (hpL z2) (hpL z2)))/\(((2:Int) != z3)=false->Nf (((!ByteArray.toList (strA (nthA 3 z1))==ByteArray.toList ⟨⟨[]⟩⟩)=true->Yt (Yt (Wk (b0 false) (b0 b)/\SameH (hpL z2) (hpL z2))))/\((!ByteArray.toList (strA (nthA 3 z1))==ByteArray.toList ⟨⟨[]⟩⟩)=false->Nf (((!intA (nthA 2 z1)==0)=true->Wk (b0 false) (b0 b)/\SameH (hpL z2) (hpL z2))/\((!intA (nthA 2 z1)==0)=false->decide ((0:Int)<z3)=true/\(decide ((0:Int)<=(0:Int)/\(0:Int)<z3)&&(Nat.beq 1 1&&(zaak z5 shN 3 (List.getD z6 0 uu)&&(false||true))))=true/\∃ (i1:Bool × Int),(i1∈ks/\Wks [z4,i0 (intA (List.getD z6 0 uu))] [z4,i0 (Prod.snd i1)]/\hpL z2=hpL z2)/\((!Prod.fst i1)=true->Wk (b0 false) (b0 b)/\SameH (hpL z2) (hpL z2))/\((!Prod.fst i1)=false->Yt (decide ((1:Int)<z3)=true/\(decide ((0:Int)<=(1:Int)/\(1:Int)<z3)&&(Nat.beq 1 1&&(zaak z5 shN 3 (List.getD z6 1 uu)&&(false||true))))=true/\∃ (i2:Bool × Int),(i2∈ks/\Wks [z4,i0 (intA (List.getD z6 1 uu))] [z4,i0 (Prod.snd i2)]/\hpL z2=hpL z2)/\((!Prod.fst i2)=true->Wk (b0 false) (b0 b)/\SameH (hpL z2) (hpL z2))/\((!Prod.fst i2)=false->Yt (decide ((2:Int)<z3)=false/\Wk (b0 true) (b0 b)/\SameH (hpL z2) (hpL z2)))))))))))):=by kernel_rfl
def zayZ:Orc:=HF (Orc.f (Orc.t (Orc.s (Orc.t (Orc.t (Orc.t (Orc.t Orc.z)))) (Orc.f (Orc.s (Orc.t (Orc.t Orc.z)) (Orc.f (Orc.s Orc.z (Orc.t (Orc.s Orc.z (Orc.t (Orc.s Orc.z (Orc.f Orc.z))))))))))))
theorem zat2 (ns:List AV)(p:Int)(ks:List (Bool × Int))(b:Bool):gRg9 zayZ ns p ks b=(let z1:=(List.getD ns (0+Int.toNat p) uu); let z2:=[eR 1048577 [0,0] 5 ns]; let z3:=(↑(List.length (elsA (nthA 4 z1))):Int); let z4:=AV.agg [AV.slc 1048577 [0,0] 0 (List.length ns)]; let z5:=(Cx.B (cxV (XRk ns ks) 12 fRgt)); let z6:=(elsA (nthA 4 z1)); (decide ((0:Int)<=p/\p<(↑(List.length ns):Int))&&(true&&Nat.beq 5 5))=true/\(true&&(Nat.ble (0+Int.toNat p+1) (List.length ns)&&zaak z5 shN 33 z1))=true/\(intA (nthA 0 z1)==1)=false/\(intA (nthA 0 z1)==2)=false/\(intA (nthA 0 z1)==3)=false/\(intA (nthA 0 z1)==4)=false/\(intA (nthA 0 z1)==8)=false/\(intA (nthA 0 z1)==9)=true/\(((2:Int) != z3)=true->Yt4 (Wk (b0 false) (b0 b)/\SameH (hpL z2) (hpL z2)))/\(((2:Int) != z3)=false->Nf (((!ByteArray.toList (strA (nthA 3 z1))==ByteArray.toList ⟨⟨[]⟩⟩)=true->Yt (Yt (Wk (b0 false) (b0 b)/\SameH (hpL z2) (hpL z2))))/\((!ByteArray.toList (strA (nthA 3 z1))==ByteArray.toList ⟨⟨[]⟩⟩)=false->Nf (((!intA (nthA 2 z1)==0)=true->Wk (b0 false) (b0 b)/\SameH (hpL z2) (hpL z2))/\((!intA (nthA 2 z1)==0)=false->decide ((0:Int)<z3)=true/\(decide ((0:Int)<=(0:Int)/\(0:Int)<z3)&&(Nat.beq 1 1&&(zaak z5 shN 3 (List.getD z6 0 uu)&&(false||true))))=true/\∃ (i1:Bool × Int),(i1∈ks/\Wks [z4,i0 (intA (List.getD z6 0 uu))] [z4,i0 (Prod.snd i1)]/\hpL z2=hpL z2)/\((!Prod.fst i1)=true->Wk (b0 false) (b0 b)/\SameH (hpL z2) (hpL z2))/\((!Prod.fst i1)=false->Yt (decide ((1:Int)<z3)=true/\(decide ((0:Int)<=(1:Int)/\(1:Int)<z3)&&(Nat.beq 1 1&&(zaak z5 shN 3 (List.getD z6 1 uu)&&(false||true))))=true/\∃ (i2:Bool × Int),(i2∈ks/\Wks [z4,i0 (intA (List.getD z6 1 uu))] [z4,i0 (Prod.snd i2)]/\hpL z2=hpL z2)/\((!Prod.fst i2)=true->Wk (b0 false) (b0 b)/\SameH (hpL z2) (hpL z2))/\((!Prod.fst i2)=false->Yt (decide ((2:Int)<z3)=false/\Wk (b0 true) (b0 b)/\SameH (hpL z2) (hpL z2))))))))))):=by kernel_rfl
def zay3:Orc:=HF (Orc.f (Orc.f (Orc.t (Orc.t (Orc.s (Orc.t (Orc.t (Orc.t (Orc.t Orc.z)))) (Orc.f (Orc.s (Orc.t (Orc.t Orc.z)) (Orc.f (Orc.s Orc.z (Orc.t (Orc.s Orc.z (Orc.f Orc.z))))))))))))
theorem zau (ns:List AV)(p:Int)(ks:List (Bool × Int))(b:Bool):gRg5 zay3 ns p ks b=(let z1:=(List.getD ns (0+Int.toNat p) uu); let z2:=(hpL [eR 1048577 [0,0] 5 ns]); let z3:=(↑(List.length (elsA (nthA 4 z1))):Int); let z4:=AV.agg [AV.slc 1048577 [0,0] 0 (List.length ns)]; let z5:=(List.getD (elsA (nthA 4 z1)) 0 uu); (decide ((0:Int)<=p/\p<(↑(List.length ns):Int))&&(true&&Nat.beq 5 5))=true/\(true&&(Nat.ble (0+Int.toNat p+1) (List.length ns)&&zaak (Cx.B (cxV (XRk ns ks) 12 fRgt)) shN 33 z1))=true/\(intA (nthA 0 z1)==1)=false/\(intA (nthA 0 z1)==2)=false/\(intA (nthA 0 z1)==3)=false/\(intA (nthA 0 z1)==4)=false/\(intA (nthA 0 z1)==8)=false/\(intA (nthA 0 z1)==9)=false/\(intA (nthA 0 z1)==5)=true/\Yt ((((1:Int) != z3)=true->Yt4 (Wk (b0 false) (b0 b)/\SameH z2 z2))/\(((1:Int) != z3)=false->Nf (((!ByteArray.toList (strA (nthA 3 z1))==ByteArray.toList ⟨⟨[]⟩⟩)=true->Yt (Yt (Wk (b0 false) (b0 b)/\SameH z2 z2)))/\((!ByteArray.toList (strA (nthA 3 z1))==ByteArray.toList ⟨⟨[]⟩⟩)=false->Nf (((!intA (nthA 2 z1)==0)=true->Wk (b0 false) (b0 b)/\SameH z2 z2)/\((!intA (nthA 2 z1)==0)=false->decide ((0:Int)<z3)=true/\(decide ((0:Int)<=(0:Int)/\(0:Int)<z3)&&(Nat.beq 1 1&&(zaak (Cx.B (cxV (XRk ns ks) 12 fRgt)) shN 3 z5&&(false||true))))=true/\∃ (i1:Bool × Int),(i1∈ks/\Wks [z4,i0 (intA z5)] [z4,i0 (Prod.snd i1)]/\hpL [eR 1048577 [0,0] 5 ns]=hpL [eR 1048577 [0,0] 5 ns])/\((!Prod.fst i1)=true->Wk (b0 false) (b0 b)/\SameH z2 z2)/\((!Prod.fst i1)=false->Yt (decide ((1:Int)<z3)=false/\Wk (b0 true) (b0 b)/\SameH z2 z2))))))))):=by kernel_rfl
def zay2:Orc:=HF (Orc.f (Orc.f (Orc.f (Orc.t (Orc.t (Orc.s (Orc.t (Orc.t (Orc.t (Orc.t Orc.z)))) (Orc.f (Orc.s (Orc.t (Orc.t Orc.z)) (Orc.f (Orc.s Orc.z (Orc.t (Orc.s Orc.z (Orc.f Orc.z)))))))))))))
theorem zat8 (ns:List AV)(p:Int)(ks:List (Bool × Int))(b:Bool):gRg6 zay2 ns p ks b=(let z1:=(List.getD ns (0+Int.toNat p) uu); let z2:=(hpL [eR 1048577 [0,0] 5 ns]); let z3:=(↑(List.length (elsA (nthA 4 z1))):Int); let z4:=AV.agg [AV.slc 1048577 [0,0] 0 (List.length ns)]; let z5:=(List.getD (elsA (nthA 4 z1)) 0 uu); (decide ((0:Int)<=p/\p<(↑(List.length ns):Int))&&(true&&Nat.beq 5 5))=true/\(true&&(Nat.ble (0+Int.toNat p+1) (List.length ns)&&zaak (Cx.B (cxV (XRk ns ks) 12 fRgt)) shN 33 z1))=true/\(intA (nthA 0 z1)==1)=false/\(intA (nthA 0 z1)==2)=false/\(intA (nthA 0 z1)==3)=false/\(intA (nthA 0 z1)==4)=false/\(intA (nthA 0 z1)==8)=false/\(intA (nthA 0 z1)==9)=false/\(intA (nthA 0 z1)==5)=false/\(intA (nthA 0 z1)==6)=true/\Yt ((((1:Int) != z3)=true->Yt4 (Wk (b0 false) (b0 b)/\SameH z2 z2))/\(((1:Int) != z3)=false->Nf (((!ByteArray.toList (strA (nthA 3 z1))==ByteArray.toList ⟨⟨[]⟩⟩)=true->Yt (Yt (Wk (b0 false) (b0 b)/\SameH z2 z2)))/\((!ByteArray.toList (strA (nthA 3 z1))==ByteArray.toList ⟨⟨[]⟩⟩)=false->Nf (((!intA (nthA 2 z1)==0)=true->Wk (b0 false) (b0 b)/\SameH z2 z2)/\((!intA (nthA 2 z1)==0)=false->decide ((0:Int)<z3)=true/\(decide ((0:Int)<=(0:Int)/\(0:Int)<z3)&&(Nat.beq 1 1&&(zaak (Cx.B (cxV (XRk ns ks) 12 fRgt)) shN 3 z5&&(false||true))))=true/\∃ (i1:Bool × Int),(i1∈ks/\Wks [z4,i0 (intA z5)] [z4,i0 (Prod.snd i1)]/\hpL [eR 1048577 [0,0] 5 ns]=hpL [eR 1048577 [0,0] 5 ns])/\((!Prod.fst i1)=true->Wk (b0 false) (b0 b)/\SameH z2 z2)/\((!Prod.fst i1)=false->Yt (decide ((1:Int)<z3)=false/\Wk (b0 true) (b0 b)/\SameH z2 z2))))))))):=by kernel_rfl
def zay1:Orc:=HF (HF (Orc.t (Orc.s (Orc.t (Orc.t (Orc.t (Orc.t Orc.z)))) (Orc.f (Orc.s (Orc.t (Orc.t Orc.z)) (Orc.f (Orc.s Orc.z (Orc.t (Orc.s Orc.z (Orc.f Orc.z))))))))))
theorem zat6 (ns:List AV)(p:Int)(ks:List (Bool × Int))(b:Bool):gRg7 zay1 ns p ks b=(let z1:=(List.getD ns (0+Int.toNat p) uu); let z2:=(hpL [eR 1048577 [0,0] 5 ns]); let z3:=(↑(List.length (elsA (nthA 4 z1))):Int); let z4:=AV.agg [AV.slc 1048577 [0,0] 0 (List.length ns)]; let z5:=(List.getD (elsA (nthA 4 z1)) 0 uu); (decide ((0:Int)<=p/\p<(↑(List.length ns):Int))&&(true&&Nat.beq 5 5))=true/\(true&&(Nat.ble (0+Int.toNat p+1) (List.length ns)&&zaak (Cx.B (cxV (XRk ns ks) 12 fRgt)) shN 33 z1))=true/\(intA (nthA 0 z1)==1)=false/\(intA (nthA 0 z1)==2)=false/\(intA (nthA 0 z1)==3)=false/\(intA (nthA 0 z1)==4)=false/\(intA (nthA 0 z1)==8)=false/\(intA (nthA 0 z1)==9)=false/\(intA (nthA 0 z1)==5)=false/\(intA (nthA 0 z1)==6)=false/\(intA (nthA 0 z1)==7)=true/\(((1:Int) != z3)=true->Yt4 (Wk (b0 false) (b0 b)/\SameH z2 z2))/\(((1:Int) != z3)=false->Nf (((!ByteArray.toList (strA (nthA 3 z1))==ByteArray.toList ⟨⟨[]⟩⟩)=true->Yt (Yt (Wk (b0 false) (b0 b)/\SameH z2 z2)))/\((!ByteArray.toList (strA (nthA 3 z1))==ByteArray.toList ⟨⟨[]⟩⟩)=false->Nf (((!intA (nthA 2 z1)==0)=true->Wk (b0 false) (b0 b)/\SameH z2 z2)/\((!intA (nthA 2 z1)==0)=false->decide ((0:Int)<z3)=true/\(decide ((0:Int)<=(0:Int)/\(0:Int)<z3)&&(Nat.beq 1 1&&(zaak (Cx.B (cxV (XRk ns ks) 12 fRgt)) shN 3 z5&&(false||true))))=true/\∃ (i1:Bool × Int),(i1∈ks/\Wks [z4,i0 (intA z5)] [z4,i0 (Prod.snd i1)]/\hpL [eR 1048577 [0,0] 5 ns]=hpL [eR 1048577 [0,0] 5 ns])/\((!Prod.fst i1)=true->Wk (b0 false) (b0 b)/\SameH z2 z2)/\((!Prod.fst i1)=false->Yt (decide ((1:Int)<z3)=false/\Wk (b0 true) (b0 b)/\SameH z2 z2)))))))):=by kernel_rfl
def zakO:Orc:=HF (HF (Orc.f (Orc.t (Orc.t (Orc.t (Orc.s (Orc.t (Orc.t (Orc.t (Orc.t Orc.z)))) (Orc.f (Orc.f (Orc.f (Orc.s Orc.z (Orc.f Orc.z)))))))))))
theorem zald (ns:List AV)(p:Int)(ks:List (Bool × Int))(b:Bool):zan2 zakO ns p ks b=(let z1:=(List.getD ns (0+Int.toNat p) uu); let z2:=(hpL [eR 1048577 [0,0] 5 ns]); let z3:=(↑(List.length (elsA (nthA 4 z1))):Int); (decide ((0:Int)<=p/\p<(↑(List.length ns):Int))&&(true&&Nat.beq 5 5))=true/\(true&&(Nat.ble (0+Int.toNat p+1) (List.length ns)&&zaak (Cx.B (cxV (XRk ns ks) 12 fRgt)) shN 33 z1))=true/\(intA (nthA 0 z1)==1)=false/\(intA (nthA 0 z1)==2)=false/\(intA (nthA 0 z1)==3)=false/\(intA (nthA 0 z1)==4)=false/\(intA (nthA 0 z1)==8)=false/\(intA (nthA 0 z1)==9)=false/\(intA (nthA 0 z1)==5)=false/\(intA (nthA 0 z1)==6)=false/\(intA (nthA 0 z1)==7)=false/\(intA (nthA 0 z1)==10)=true/\(ByteArray.toList (strA (nthA 3 z1))==ByteArray.toList wAll)=true/\Yt ((((0:Int) != z3)=true->Yt4 (Wk (b0 false) (b0 b)/\SameH z2 z2))/\(((0:Int) != z3)=false->Nf (Nf (Nf (((!intA (nthA 2 z1)==0)=true->Wk (b0 false) (b0 b)/\SameH z2 z2)/\((!intA (nthA 2 z1)==0)=false->decide ((0:Int)<z3)=false/\Wk (b0 true) (b0 b)/\SameH z2 z2))))))):=by kernel_rfl
def zaiF:Orc:=HF (HF (Orc.f (Orc.t (Orc.f (Orc.t (Orc.t (Orc.s (Orc.t (Orc.t (Orc.t (Orc.t Orc.z)))) (Orc.f (Orc.f (Orc.f (Orc.s Orc.z (Orc.f Orc.z))))))))))))
theorem zajx (ns:List AV)(p:Int)(ks:List (Bool × Int))(b:Bool):zak9 zaiF ns p ks b=(let z1:=(List.getD ns (0+Int.toNat p) uu); let z2:=(hpL [eR 1048577 [0,0] 5 ns]); let z3:=(↑(List.length (elsA (nthA 4 z1))):Int); (decide ((0:Int)<=p/\p<(↑(List.length ns):Int))&&(true&&Nat.beq 5 5))=true/\(true&&(Nat.ble (0+Int.toNat p+1) (List.length ns)&&zaak (Cx.B (cxV (XRk ns ks) 12 fRgt)) shN 33 z1))=true/\(intA (nthA 0 z1)==1)=false/\(intA (nthA 0 z1)==2)=false/\(intA (nthA 0 z1)==3)=false/\(intA (nthA 0 z1)==4)=false/\(intA (nthA 0 z1)==8)=false/\(intA (nthA 0 z1)==9)=false/\(intA (nthA 0 z1)==5)=false/\(intA (nthA 0 z1)==6)=false/\(intA (nthA 0 z1)==7)=false/\(intA (nthA 0 z1)==10)=true/\(ByteArray.toList (strA (nthA 3 z1))==ByteArray.toList wAll)=false/\(ByteArray.toList (strA (nthA 3 z1))==ByteArray.toList zabC)=true/\Yt ((((0:Int) != z3)=true->Yt4 (Wk (b0 false) (b0 b)/\SameH z2 z2))/\(((0:Int) != z3)=false->Nf (Nf (Nf (((!intA (nthA 2 z1)==0)=true->Wk (b0 false) (b0 b)/\SameH z2 z2)/\((!intA (nthA 2 z1)==0)=false->decide ((0:Int)<z3)=false/\Wk (b0 true) (b0 b)/\SameH z2 z2))))))):=by kernel_rfl
def zafo:Orc:=HF (HF (Orc.f (Orc.t (Orc.f (Orc.f (Orc.t (Orc.s (Orc.t (Orc.t (Orc.t (Orc.t Orc.z)))) (Orc.f (Orc.f (Orc.f (Orc.s Orc.z (Orc.f Orc.z))))))))))))
theorem zagX (ns:List AV)(p:Int)(ks:List (Bool × Int))(b:Bool):zagZ zafo ns p ks b=(let z1:=(List.getD ns (0+Int.toNat p) uu); let z2:=(hpL [eR 1048577 [0,0] 5 ns]); let z3:=(↑(List.length (elsA (nthA 4 z1))):Int); (decide ((0:Int)<=p/\p<(↑(List.length ns):Int))&&(true&&Nat.beq 5 5))=true/\(true&&(Nat.ble (0+Int.toNat p+1) (List.length ns)&&zaak (Cx.B (cxV (XRk ns ks) 12 fRgt)) shN 33 z1))=true/\(intA (nthA 0 z1)==1)=false/\(intA (nthA 0 z1)==2)=false/\(intA (nthA 0 z1)==3)=false/\(intA (nthA 0 z1)==4)=false/\(intA (nthA 0 z1)==8)=false/\(intA (nthA 0 z1)==9)=false/\(intA (nthA 0 z1)==5)=false/\(intA (nthA 0 z1)==6)=false/\(intA (nthA 0 z1)==7)=false/\(intA (nthA 0 z1)==10)=true/\(ByteArray.toList (strA (nthA 3 z1))==ByteArray.toList wAll)=false/\(ByteArray.toList (strA (nthA 3 z1))==ByteArray.toList zabC)=false/\(ByteArray.toList (strA (nthA 3 z1))==ByteArray.toList zaam)=true/\(((0:Int) != z3)=true->Yt4 (Wk (b0 false) (b0 b)/\SameH z2 z2))/\(((0:Int) != z3)=false->Nf (Nf (Nf (((!intA (nthA 2 z1)==0)=true->Wk (b0 false) (b0 b)/\SameH z2 z2)/\((!intA (nthA 2 z1)==0)=false->decide ((0:Int)<z3)=false/\Wk (b0 true) (b0 b)/\SameH z2 z2)))))):=by kernel_rfl
def zaex:Orc:=HF (HF (Orc.f (Orc.t (Orc.f (Orc.f (Orc.f (Orc.t (Orc.t (Orc.s (Orc.t (Orc.t (Orc.t (Orc.t Orc.z)))) (Orc.f (Orc.f (Orc.f (Orc.s Orc.z (Orc.t (Orc.s Orc.z (Orc.f Orc.z))))))))))))))))
theorem zaf9 (ns:List AV)(p:Int)(ks:List (Bool × Int))(b:Bool):zafv zaex ns p ks b=(let z1:=(List.getD ns (0+Int.toNat p) uu); let z2:=(hpL [eR 1048577 [0,0] 5 ns]); let z3:=(↑(List.length (elsA (nthA 4 z1))):Int); let z4:=AV.agg [AV.slc 1048577 [0,0] 0 (List.length ns)]; let z5:=(strA (nthA 3 z1)); let z6:=(List.getD (elsA (nthA 4 z1)) 0 uu); (decide ((0:Int)<=p/\p<(↑(List.length ns):Int))&&(true&&Nat.beq 5 5))=true/\(true&&(Nat.ble (0+Int.toNat p+1) (List.length ns)&&zaak (Cx.B (cxV (XRk ns ks) 12 fRgt)) shN 33 z1))=true/\(intA (nthA 0 z1)==1)=false/\(intA (nthA 0 z1)==2)=false/\(intA (nthA 0 z1)==3)=false/\(intA (nthA 0 z1)==4)=false/\(intA (nthA 0 z1)==8)=false/\(intA (nthA 0 z1)==9)=false/\(intA (nthA 0 z1)==5)=false/\(intA (nthA 0 z1)==6)=false/\(intA (nthA 0 z1)==7)=false/\(intA (nthA 0 z1)==10)=true/\(ByteArray.toList z5==ByteArray.toList wAll)=false/\(ByteArray.toList z5==ByteArray.toList zabC)=false/\(ByteArray.toList z5==ByteArray.toList zaam)=false/\(ByteArray.toList z5==ByteArray.toList zaai)=true/\Yt ((((1:Int) != z3)=true->Yt4 (Wk (b0 false) (b0 b)/\SameH z2 z2))/\(((1:Int) != z3)=false->Nf (Nf (Nf (((!intA (nthA 2 z1)==0)=true->Wk (b0 false) (b0 b)/\SameH z2 z2)/\((!intA (nthA 2 z1)==0)=false->decide ((0:Int)<z3)=true/\(decide ((0:Int)<=(0:Int)/\(0:Int)<z3)&&(Nat.beq 1 1&&(zaak (Cx.B (cxV (XRk ns ks) 12 fRgt)) shN 3 z6&&(false||true))))=true/\∃ (i1:Bool × Int),(i1∈ks/\Wks [z4,i0 (intA z6)] [z4,i0 (Prod.snd i1)]/\hpL [eR 1048577 [0,0] 5 ns]=hpL [eR 1048577 [0,0] 5 ns])/\((!Prod.fst i1)=true->Wk (b0 false) (b0 b)/\SameH z2 z2)/\((!Prod.fst i1)=false->Yt (decide ((1:Int)<z3)=false/\Wk (b0 true) (b0 b)/\SameH z2 z2))))))))):=by kernel_rfl
def zadP:Orc:=HF (HF (Orc.f (Orc.t (HF (Orc.t (Orc.t (Orc.s (Orc.t (Orc.t (Orc.t (Orc.t Orc.z)))) (Orc.f (Orc.f (Orc.f (Orc.s Orc.z (Orc.t (Orc.s Orc.z (Orc.f Orc.z))))))))))))))
theorem zae9 (ns:List AV)(p:Int)(ks:List (Bool × Int))(b:Bool):zaeJ zadP ns p ks b=(let z1:=(List.getD ns (0+Int.toNat p) uu); let z2:=(hpL [eR 1048577 [0,0] 5 ns]); let z3:=(↑(List.length (elsA (nthA 4 z1))):Int); let z4:=(strA (nthA 3 z1)); let z5:=AV.agg [AV.slc 1048577 [0,0] 0 (List.length ns)]; let z6:=(List.getD (elsA (nthA 4 z1)) 0 uu); (decide ((0:Int)<=p/\p<(↑(List.length ns):Int))&&(true&&Nat.beq 5 5))=true/\(true&&(Nat.ble (0+Int.toNat p+1) (List.length ns)&&zaak (Cx.B (cxV (XRk ns ks) 12 fRgt)) shN 33 z1))=true/\(intA (nthA 0 z1)==1)=false/\(intA (nthA 0 z1)==2)=false/\(intA (nthA 0 z1)==3)=false/\(intA (nthA 0 z1)==4)=false/\(intA (nthA 0 z1)==8)=false/\(intA (nthA 0 z1)==9)=false/\(intA (nthA 0 z1)==5)=false/\(intA (nthA 0 z1)==6)=false/\(intA (nthA 0 z1)==7)=false/\(intA (nthA 0 z1)==10)=true/\(ByteArray.toList z4==ByteArray.toList wAll)=false/\(ByteArray.toList z4==ByteArray.toList zabC)=false/\(ByteArray.toList z4==ByteArray.toList zaam)=false/\(ByteArray.toList z4==ByteArray.toList zaai)=false/\(ByteArray.toList z4==ByteArray.toList zaaf)=true/\Yt ((((1:Int) != z3)=true->Yt4 (Wk (b0 false) (b0 b)/\SameH z2 z2))/\(((1:Int) != z3)=false->Nf (Nf (Nf (((!intA (nthA 2 z1)==0)=true->Wk (b0 false) (b0 b)/\SameH z2 z2)/\((!intA (nthA 2 z1)==0)=false->decide ((0:Int)<z3)=true/\(decide ((0:Int)<=(0:Int)/\(0:Int)<z3)&&(Nat.beq 1 1&&(zaak (Cx.B (cxV (XRk ns ks) 12 fRgt)) shN 3 z6&&(false||true))))=true/\∃ (i1:Bool × Int),(i1∈ks/\Wks [z5,i0 (intA z6)] [z5,i0 (Prod.snd i1)]/\hpL [eR 1048577 [0,0] 5 ns]=hpL [eR 1048577 [0,0] 5 ns])/\((!Prod.fst i1)=true->Wk (b0 false) (b0 b)/\SameH z2 z2)/\((!Prod.fst i1)=false->Yt (decide ((1:Int)<z3)=false/\Wk (b0 true) (b0 b)/\SameH z2 z2))))))))):=by kernel_rfl
def zakN:Orc:=HF (HF (Orc.f (Orc.t (HF (Orc.f (Orc.t (Orc.t (Orc.s (Orc.t (Orc.t (Orc.t (Orc.t Orc.z)))) (Orc.f (Orc.f (Orc.f (Orc.s Orc.z (Orc.t (Orc.s Orc.z (Orc.f Orc.z)))))))))))))))
theorem zalb (ns:List AV)(p:Int)(ks:List (Bool × Int))(b:Bool):zan1 zakN ns p ks b=(let z1:=(List.getD ns (0+Int.toNat p) uu); let z2:=(hpL [eR 1048577 [0,0] 5 ns]); let z3:=(↑(List.length (elsA (nthA 4 z1))):Int); let z4:=(strA (nthA 3 z1)); let z5:=AV.agg [AV.slc 1048577 [0,0] 0 (List.length ns)]; let z6:=(List.getD (elsA (nthA 4 z1)) 0 uu); (decide ((0:Int)<=p/\p<(↑(List.length ns):Int))&&(true&&Nat.beq 5 5))=true/\(true&&(Nat.ble (0+Int.toNat p+1) (List.length ns)&&zaak (Cx.B (cxV (XRk ns ks) 12 fRgt)) shN 33 z1))=true/\(intA (nthA 0 z1)==1)=false/\(intA (nthA 0 z1)==2)=false/\(intA (nthA 0 z1)==3)=false/\(intA (nthA 0 z1)==4)=false/\(intA (nthA 0 z1)==8)=false/\(intA (nthA 0 z1)==9)=false/\(intA (nthA 0 z1)==5)=false/\(intA (nthA 0 z1)==6)=false/\(intA (nthA 0 z1)==7)=false/\(intA (nthA 0 z1)==10)=true/\(ByteArray.toList z4==ByteArray.toList wAll)=false/\(ByteArray.toList z4==ByteArray.toList zabC)=false/\(ByteArray.toList z4==ByteArray.toList zaam)=false/\(ByteArray.toList z4==ByteArray.toList zaai)=false/\(ByteArray.toList z4==ByteArray.toList zaaf)=false/\(ByteArray.toList z4==ByteArray.toList wAnc)=true/\Yt ((((1:Int) != z3)=true->Yt4 (Wk (b0 false) (b0 b)/\SameH z2 z2))/\(((1:Int) != z3)=false->Nf (Nf (Nf (((!intA (nthA 2 z1)==0)=true->Wk (b0 false) (b0 b)/\SameH z2 z2)/\((!intA (nthA 2 z1)==0)=false->decide ((0:Int)<z3)=true/\(decide ((0:Int)<=(0:Int)/\(0:Int)<z3)&&(Nat.beq 1 1&&(zaak (Cx.B (cxV (XRk ns ks) 12 fRgt)) shN 3 z6&&(false||true))))=true/\∃ (i1:Bool × Int),(i1∈ks/\Wks [z5,i0 (intA z6)] [z5,i0 (Prod.snd i1)]/\hpL [eR 1048577 [0,0] 5 ns]=hpL [eR 1048577 [0,0] 5 ns])/\((!Prod.fst i1)=true->Wk (b0 false) (b0 b)/\SameH z2 z2)/\((!Prod.fst i1)=false->Yt (decide ((1:Int)<z3)=false/\Wk (b0 true) (b0 b)/\SameH z2 z2))))))))):=by kernel_rfl
def zaiH:Orc:=HF (HF (Orc.f (Orc.t (HF (Orc.f (Orc.f (Orc.t (Orc.t (Orc.s (Orc.t (Orc.t (Orc.t (Orc.t Orc.z)))) (Orc.f (Orc.f (Orc.f (Orc.s Orc.z (Orc.t (Orc.s Orc.z (Orc.f Orc.z))))))))))))))))
theorem zajB (ns:List AV)(p:Int)(ks:List (Bool × Int))(b:Bool):zala zaiH ns p ks b=(let z1:=(List.getD ns (0+Int.toNat p) uu); let z2:=(hpL [eR 1048577 [0,0] 5 ns]); let z3:=(↑(List.length (elsA (nthA 4 z1))):Int); let z4:=(strA (nthA 3 z1)); let z5:=AV.agg [AV.slc 1048577 [0,0] 0 (List.length ns)]; let z6:=(List.getD (elsA (nthA 4 z1)) 0 uu); (decide ((0:Int)<=p/\p<(↑(List.length ns):Int))&&(true&&Nat.beq 5 5))=true/\(true&&(Nat.ble (0+Int.toNat p+1) (List.length ns)&&zaak (Cx.B (cxV (XRk ns ks) 12 fRgt)) shN 33 z1))=true/\(intA (nthA 0 z1)==1)=false/\(intA (nthA 0 z1)==2)=false/\(intA (nthA 0 z1)==3)=false/\(intA (nthA 0 z1)==4)=false/\(intA (nthA 0 z1)==8)=false/\(intA (nthA 0 z1)==9)=false/\(intA (nthA 0 z1)==5)=false/\(intA (nthA 0 z1)==6)=false/\(intA (nthA 0 z1)==7)=false/\(intA (nthA 0 z1)==10)=true/\(ByteArray.toList z4==ByteArray.toList wAll)=false/\(ByteArray.toList z4==ByteArray.toList zabC)=false/\(ByteArray.toList z4==ByteArray.toList zaam)=false/\(ByteArray.toList z4==ByteArray.toList zaai)=false/\(ByteArray.toList z4==ByteArray.toList zaaf)=false/\(ByteArray.toList z4==ByteArray.toList wAnc)=false/\(ByteArray.toList z4==ByteArray.toList zabZ)=true/\Yt ((((1:Int) != z3)=true->Yt4 (Wk (b0 false) (b0 b)/\SameH z2 z2))/\(((1:Int) != z3)=false->Nf (Nf (Nf (((!intA (nthA 2 z1)==0)=true->Wk (b0 false) (b0 b)/\SameH z2 z2)/\((!intA (nthA 2 z1)==0)=false->decide ((0:Int)<z3)=true/\(decide ((0:Int)<=(0:Int)/\(0:Int)<z3)&&(Nat.beq 1 1&&(zaak (Cx.B (cxV (XRk ns ks) 12 fRgt)) shN 3 z6&&(false||true))))=true/\∃ (i1:Bool × Int),(i1∈ks/\Wks [z5,i0 (intA z6)] [z5,i0 (Prod.snd i1)]/\hpL [eR 1048577 [0,0] 5 ns]=hpL [eR 1048577 [0,0] 5 ns])/\((!Prod.fst i1)=true->Wk (b0 false) (b0 b)/\SameH z2 z2)/\((!Prod.fst i1)=false->Yt (decide ((1:Int)<z3)=false/\Wk (b0 true) (b0 b)/\SameH z2 z2))))))))):=by kernel_rfl
def zagL:Orc:=HF (HF (Orc.f (Orc.t (HF (Orc.f (Orc.f (Orc.f (Orc.t (Orc.t (Orc.s (Orc.t (Orc.t (Orc.t (Orc.t Orc.z)))) (Orc.f (Orc.f (Orc.f (Orc.s Orc.z (Orc.t (Orc.s Orc.z (Orc.f Orc.z)))))))))))))))))
theorem zahT (ns:List AV)(p:Int)(ks:List (Bool × Int))(b:Bool):zaiV zagL ns p ks b=(let z1:=(List.getD ns (0+Int.toNat p) uu); let z2:=(hpL [eR 1048577 [0,0] 5 ns]); let z3:=(↑(List.length (elsA (nthA 4 z1))):Int); let z4:=(strA (nthA 3 z1)); let z5:=AV.agg [AV.slc 1048577 [0,0] 0 (List.length ns)]; let z6:=(List.getD (elsA (nthA 4 z1)) 0 uu); (decide ((0:Int)<=p/\p<(↑(List.length ns):Int))&&(true&&Nat.beq 5 5))=true/\(true&&(Nat.ble (0+Int.toNat p+1) (List.length ns)&&zaak (Cx.B (cxV (XRk ns ks) 12 fRgt)) shN 33 z1))=true/\(intA (nthA 0 z1)==1)=false/\(intA (nthA 0 z1)==2)=false/\(intA (nthA 0 z1)==3)=false/\(intA (nthA 0 z1)==4)=false/\(intA (nthA 0 z1)==8)=false/\(intA (nthA 0 z1)==9)=false/\(intA (nthA 0 z1)==5)=false/\(intA (nthA 0 z1)==6)=false/\(intA (nthA 0 z1)==7)=false/\(intA (nthA 0 z1)==10)=true/\(ByteArray.toList z4==ByteArray.toList wAll)=false/\(ByteArray.toList z4==ByteArray.toList zabC)=false/\(ByteArray.toList z4==ByteArray.toList zaam)=false/\(ByteArray.toList z4==ByteArray.toList zaai)=false/\(ByteArray.toList z4==ByteArray.toList zaaf)=false/\(ByteArray.toList z4==ByteArray.toList wAnc)=false/\(ByteArray.toList z4==ByteArray.toList zabZ)=false/\(ByteArray.toList z4==ByteArray.toList zaaX)=true/\Yt ((((1:Int) != z3)=true->Yt4 (Wk (b0 false) (b0 b)/\SameH z2 z2))/\(((1:Int) != z3)=false->Nf (Nf (Nf (((!intA (nthA 2 z1)==0)=true->Wk (b0 false) (b0 b)/\SameH z2 z2)/\((!intA (nthA 2 z1)==0)=false->decide ((0:Int)<z3)=true/\(decide ((0:Int)<=(0:Int)/\(0:Int)<z3)&&(Nat.beq 1 1&&(zaak (Cx.B (cxV (XRk ns ks) 12 fRgt)) shN 3 z6&&(false||true))))=true/\∃ (i1:Bool × Int),(i1∈ks/\Wks [z5,i0 (intA z6)] [z5,i0 (Prod.snd i1)]/\hpL [eR 1048577 [0,0] 5 ns]=hpL [eR 1048577 [0,0] 5 ns])/\((!Prod.fst i1)=true->Wk (b0 false) (b0 b)/\SameH z2 z2)/\((!Prod.fst i1)=false->Yt (decide ((1:Int)<z3)=false/\Wk (b0 true) (b0 b)/\SameH z2 z2))))))))):=by kernel_rfl
def zagJ:Orc:=HF (HF (Orc.f (Orc.t (HF (HF (Orc.t (Orc.s (Orc.t (Orc.t (Orc.t (Orc.t Orc.z)))) (Orc.f (Orc.f (Orc.f (Orc.s Orc.z (Orc.t (Orc.s Orc.z (Orc.f Orc.z))))))))))))))
theorem zahP (ns:List AV)(p:Int)(ks:List (Bool × Int))(b:Bool):zaiT zagJ ns p ks b=(let z1:=(List.getD ns (0+Int.toNat p) uu); let z2:=(hpL [eR 1048577 [0,0] 5 ns]); let z3:=(↑(List.length (elsA (nthA 4 z1))):Int); let z4:=(strA (nthA 3 z1)); let z5:=AV.agg [AV.slc 1048577 [0,0] 0 (List.length ns)]; let z6:=(List.getD (elsA (nthA 4 z1)) 0 uu); (decide ((0:Int)<=p/\p<(↑(List.length ns):Int))&&(true&&Nat.beq 5 5))=true/\(true&&(Nat.ble (0+Int.toNat p+1) (List.length ns)&&zaak (Cx.B (cxV (XRk ns ks) 12 fRgt)) shN 33 z1))=true/\(intA (nthA 0 z1)==1)=false/\(intA (nthA 0 z1)==2)=false/\(intA (nthA 0 z1)==3)=false/\(intA (nthA 0 z1)==4)=false/\(intA (nthA 0 z1)==8)=false/\(intA (nthA 0 z1)==9)=false/\(intA (nthA 0 z1)==5)=false/\(intA (nthA 0 z1)==6)=false/\(intA (nthA 0 z1)==7)=false/\(intA (nthA 0 z1)==10)=true/\(ByteArray.toList z4==ByteArray.toList wAll)=false/\(ByteArray.toList z4==ByteArray.toList zabC)=false/\(ByteArray.toList z4==ByteArray.toList zaam)=false/\(ByteArray.toList z4==ByteArray.toList zaai)=false/\(ByteArray.toList z4==ByteArray.toList zaaf)=false/\(ByteArray.toList z4==ByteArray.toList wAnc)=false/\(ByteArray.toList z4==ByteArray.toList zabZ)=false/\(ByteArray.toList z4==ByteArray.toList zaaX)=false/\(ByteArray.toList z4==ByteArray.toList zaa3)=true/\(((1:Int) != z3)=true->Yt4 (Wk (b0 false) (b0 b)/\SameH z2 z2))/\(((1:Int) != z3)=false->Nf (Nf (Nf (((!intA (nthA 2 z1)==0)=true->Wk (b0 false) (b0 b)/\SameH z2 z2)/\((!intA (nthA 2 z1)==0)=false->decide ((0:Int)<z3)=true/\(decide ((0:Int)<=(0:Int)/\(0:Int)<z3)&&(Nat.beq 1 1&&(zaak (Cx.B (cxV (XRk ns ks) 12 fRgt)) shN 3 z6&&(false||true))))=true/\∃ (i1:Bool × Int),(i1∈ks/\Wks [z5,i0 (intA z6)] [z5,i0 (Prod.snd i1)]/\hpL [eR 1048577 [0,0] 5 ns]=hpL [eR 1048577 [0,0] 5 ns])/\((!Prod.fst i1)=true->Wk (b0 false) (b0 b)/\SameH z2 z2)/\((!Prod.fst i1)=false->Yt (decide ((1:Int)<z3)=false/\Wk (b0 true) (b0 b)/\SameH z2 z2)))))))):=by kernel_rfl
def zagM:Orc:=HF (HF (Orc.f (Orc.t (HF (HF (Orc.f (Orc.t (Orc.t (Orc.s (Orc.t (Orc.t (Orc.s (Orc.t (Orc.t (Orc.t (Orc.t Orc.z)))) (Orc.f (Orc.f (Orc.f (Orc.s Orc.z (Orc.t (Orc.s Orc.z (Orc.f Orc.z)))))))))) (Orc.f (Orc.f (Orc.s (Orc.t (Orc.t (Orc.t (Orc.t Orc.z)))) (Orc.f (Orc.f (Orc.f (Orc.t Orc.z))))))))))))))))
theorem zahV (ns:List AV)(p:Int)(ks:List (Bool × Int))(b:Bool):zaiW zagM ns p ks b=(let z1:=(List.getD ns (0+Int.toNat p) uu); let z2:=(hpL [eR 1048577 [0,0] 5 ns]); let z3:=(↑(List.length (elsA (nthA 4 z1))):Int); let z4:=(strA (nthA 3 z1)); let z5:=AV.agg [AV.slc 1048577 [0,0] 0 (List.length ns)]; let z6:=((1:Int) != z3); let z7:=(!decide (intA (nthA 2 z1)<=999999)); let z8:=(List.getD (elsA (nthA 4 z1)) 0 uu); (decide ((0:Int)<=p/\p<(↑(List.length ns):Int))&&(true&&Nat.beq 5 5))=true/\(true&&(Nat.ble (0+Int.toNat p+1) (List.length ns)&&zaak (Cx.B (cxV (XRk ns ks) 12 fRgt)) shN 33 z1))=true/\(intA (nthA 0 z1)==1)=false/\(intA (nthA 0 z1)==2)=false/\(intA (nthA 0 z1)==3)=false/\(intA (nthA 0 z1)==4)=false/\(intA (nthA 0 z1)==8)=false/\(intA (nthA 0 z1)==9)=false/\(intA (nthA 0 z1)==5)=false/\(intA (nthA 0 z1)==6)=false/\(intA (nthA 0 z1)==7)=false/\(intA (nthA 0 z1)==10)=true/\(ByteArray.toList z4==ByteArray.toList wAll)=false/\(ByteArray.toList z4==ByteArray.toList zabC)=false/\(ByteArray.toList z4==ByteArray.toList zaam)=false/\(ByteArray.toList z4==ByteArray.toList zaai)=false/\(ByteArray.toList z4==ByteArray.toList zaaf)=false/\(ByteArray.toList z4==ByteArray.toList wAnc)=false/\(ByteArray.toList z4==ByteArray.toList zabZ)=false/\(ByteArray.toList z4==ByteArray.toList zaaX)=false/\(ByteArray.toList z4==ByteArray.toList zaa3)=false/\(ByteArray.toList z4==ByteArray.toList zaaY)=true/\Yt ((decide (intA (nthA 2 z1)>=0)=true->Yt (Yt ((z6=true->Yt4 (Wk (b0 false) (b0 b)/\SameH z2 z2))/\(z6=false->Nf (Nf (Nf ((z7=true->Wk (b0 false) (b0 b)/\SameH z2 z2)/\(z7=false->decide ((0:Int)<z3)=true/\(decide ((0:Int)<=(0:Int)/\(0:Int)<z3)&&(Nat.beq 1 1&&(zaak (Cx.B (cxV (XRk ns ks) 12 fRgt)) shN 3 z8&&(false||true))))=true/\∃ (i1:Bool × Int),(i1∈ks/\Wks [z5,i0 (intA z8)] [z5,i0 (Prod.snd i1)]/\hpL [eR 1048577 [0,0] 5 ns]=hpL [eR 1048577 [0,0] 5 ns])/\((!Prod.fst i1)=true->Wk (b0 false) (b0 b)/\SameH z2 z2)/\((!Prod.fst i1)=false->Yt (decide ((1:Int)<z3)=false/\Wk (b0 true) (b0 b)/\SameH z2 z2))))))))))/\(decide (intA (nthA 2 z1)>=0)=false->Nf (Nf ((z6=true->Yt4 (Wk (b0 false) (b0 b)/\SameH z2 z2))/\(z6=false->Nf (Nf (Nf (Yt (Wk (b0 false) (b0 b)/\SameH z2 z2)))))))))):=by kernel_rfl
def zaiG:Orc:=HF (HF (Orc.f (Orc.t (HF (HF (Orc.f (Orc.f (Orc.t (Orc.t (Orc.s (Orc.t (Orc.t (Orc.s (Orc.t (Orc.t (Orc.t (Orc.t Orc.z)))) (Orc.f (Orc.f (Orc.f (Orc.s Orc.z (Orc.t (Orc.s Orc.z (Orc.f Orc.z)))))))))) (Orc.f (Orc.f (Orc.s (Orc.t (Orc.t (Orc.t (Orc.t Orc.z)))) (Orc.f (Orc.f (Orc.f (Orc.t Orc.z)))))))))))))))))
theorem zajz (ns:List AV)(p:Int)(ks:List (Bool × Int))(b:Bool):zal zaiG ns p ks b=(let z1:=(List.getD ns (0+Int.toNat p) uu); let z2:=(hpL [eR 1048577 [0,0] 5 ns]); let z3:=(↑(List.length (elsA (nthA 4 z1))):Int); let z4:=(strA (nthA 3 z1)); let z5:=AV.agg [AV.slc 1048577 [0,0] 0 (List.length ns)]; let z6:=((1:Int) != z3); let z7:=(!decide (intA (nthA 2 z1)<=999999)); let z8:=(List.getD (elsA (nthA 4 z1)) 0 uu); (decide ((0:Int)<=p/\p<(↑(List.length ns):Int))&&(true&&Nat.beq 5 5))=true/\(true&&(Nat.ble (0+Int.toNat p+1) (List.length ns)&&zaak (Cx.B (cxV (XRk ns ks) 12 fRgt)) shN 33 z1))=true/\(intA (nthA 0 z1)==1)=false/\(intA (nthA 0 z1)==2)=false/\(intA (nthA 0 z1)==3)=false/\(intA (nthA 0 z1)==4)=false/\(intA (nthA 0 z1)==8)=false/\(intA (nthA 0 z1)==9)=false/\(intA (nthA 0 z1)==5)=false/\(intA (nthA 0 z1)==6)=false/\(intA (nthA 0 z1)==7)=false/\(intA (nthA 0 z1)==10)=true/\(ByteArray.toList z4==ByteArray.toList wAll)=false/\(ByteArray.toList z4==ByteArray.toList zabC)=false/\(ByteArray.toList z4==ByteArray.toList zaam)=false/\(ByteArray.toList z4==ByteArray.toList zaai)=false/\(ByteArray.toList z4==ByteArray.toList zaaf)=false/\(ByteArray.toList z4==ByteArray.toList wAnc)=false/\(ByteArray.toList z4==ByteArray.toList zabZ)=false/\(ByteArray.toList z4==ByteArray.toList zaaX)=false/\(ByteArray.toList z4==ByteArray.toList zaa3)=false/\(ByteArray.toList z4==ByteArray.toList zaaY)=false/\(ByteArray.toList z4==ByteArray.toList zacx)=true/\Yt ((decide (intA (nthA 2 z1)>=0)=true->Yt (Yt ((z6=true->Yt4 (Wk (b0 false) (b0 b)/\SameH z2 z2))/\(z6=false->Nf (Nf (Nf ((z7=true->Wk (b0 false) (b0 b)/\SameH z2 z2)/\(z7=false->decide ((0:Int)<z3)=true/\(decide ((0:Int)<=(0:Int)/\(0:Int)<z3)&&(Nat.beq 1 1&&(zaak (Cx.B (cxV (XRk ns ks) 12 fRgt)) shN 3 z8&&(false||true))))=true/\∃ (i1:Bool × Int),(i1∈ks/\Wks [z5,i0 (intA z8)] [z5,i0 (Prod.snd i1)]/\hpL [eR 1048577 [0,0] 5 ns]=hpL [eR 1048577 [0,0] 5 ns])/\((!Prod.fst i1)=true->Wk (b0 false) (b0 b)/\SameH z2 z2)/\((!Prod.fst i1)=false->Yt (decide ((1:Int)<z3)=false/\Wk (b0 true) (b0 b)/\SameH z2 z2))))))))))/\(decide (intA (nthA 2 z1)>=0)=false->Nf (Nf ((z6=true->Yt4 (Wk (b0 false) (b0 b)/\SameH z2 z2))/\(z6=false->Nf (Nf (Nf (Yt (Wk (b0 false) (b0 b)/\SameH z2 z2)))))))))):=by kernel_rfl
def zagK:Orc:=HF (HF (Orc.f (Orc.t (HF (HF (Orc.f (Orc.f (Orc.f (Orc.t (Orc.s (Orc.t (Orc.t (Orc.s (Orc.t (Orc.t (Orc.t (Orc.t Orc.z)))) (Orc.f (Orc.f (Orc.f (Orc.s Orc.z (Orc.t (Orc.s Orc.z (Orc.f Orc.z)))))))))) (Orc.f (Orc.f (Orc.s (Orc.t (Orc.t (Orc.t (Orc.t Orc.z)))) (Orc.f (Orc.f (Orc.f (Orc.t Orc.z)))))))))))))))))
theorem zahR (ns:List AV)(p:Int)(ks:List (Bool × Int))(b:Bool):zaiU zagK ns p ks b=(let z1:=(List.getD ns (0+Int.toNat p) uu); let z2:=(hpL [eR 1048577 [0,0] 5 ns]); let z3:=(↑(List.length (elsA (nthA 4 z1))):Int); let z4:=(strA (nthA 3 z1)); let z5:=AV.agg [AV.slc 1048577 [0,0] 0 (List.length ns)]; let z6:=((1:Int) != z3); let z7:=(!decide (intA (nthA 2 z1)<=999999)); let z8:=(List.getD (elsA (nthA 4 z1)) 0 uu); (decide ((0:Int)<=p/\p<(↑(List.length ns):Int))&&(true&&Nat.beq 5 5))=true/\(true&&(Nat.ble (0+Int.toNat p+1) (List.length ns)&&zaak (Cx.B (cxV (XRk ns ks) 12 fRgt)) shN 33 z1))=true/\(intA (nthA 0 z1)==1)=false/\(intA (nthA 0 z1)==2)=false/\(intA (nthA 0 z1)==3)=false/\(intA (nthA 0 z1)==4)=false/\(intA (nthA 0 z1)==8)=false/\(intA (nthA 0 z1)==9)=false/\(intA (nthA 0 z1)==5)=false/\(intA (nthA 0 z1)==6)=false/\(intA (nthA 0 z1)==7)=false/\(intA (nthA 0 z1)==10)=true/\(ByteArray.toList z4==ByteArray.toList wAll)=false/\(ByteArray.toList z4==ByteArray.toList zabC)=false/\(ByteArray.toList z4==ByteArray.toList zaam)=false/\(ByteArray.toList z4==ByteArray.toList zaai)=false/\(ByteArray.toList z4==ByteArray.toList zaaf)=false/\(ByteArray.toList z4==ByteArray.toList wAnc)=false/\(ByteArray.toList z4==ByteArray.toList zabZ)=false/\(ByteArray.toList z4==ByteArray.toList zaaX)=false/\(ByteArray.toList z4==ByteArray.toList zaa3)=false/\(ByteArray.toList z4==ByteArray.toList zaaY)=false/\(ByteArray.toList z4==ByteArray.toList zacx)=false/\(ByteArray.toList z4==ByteArray.toList zaa8)=true/\(decide (intA (nthA 2 z1)>=0)=true->Yt (Yt ((z6=true->Yt4 (Wk (b0 false) (b0 b)/\SameH z2 z2))/\(z6=false->Nf (Nf (Nf ((z7=true->Wk (b0 false) (b0 b)/\SameH z2 z2)/\(z7=false->decide ((0:Int)<z3)=true/\(decide ((0:Int)<=(0:Int)/\(0:Int)<z3)&&(Nat.beq 1 1&&(zaak (Cx.B (cxV (XRk ns ks) 12 fRgt)) shN 3 z8&&(false||true))))=true/\∃ (i1:Bool × Int),(i1∈ks/\Wks [z5,i0 (intA z8)] [z5,i0 (Prod.snd i1)]/\hpL [eR 1048577 [0,0] 5 ns]=hpL [eR 1048577 [0,0] 5 ns])/\((!Prod.fst i1)=true->Wk (b0 false) (b0 b)/\SameH z2 z2)/\((!Prod.fst i1)=false->Yt (decide ((1:Int)<z3)=false/\Wk (b0 true) (b0 b)/\SameH z2 z2))))))))))/\(decide (intA (nthA 2 z1)>=0)=false->Nf (Nf ((z6=true->Yt4 (Wk (b0 false) (b0 b)/\SameH z2 z2))/\(z6=false->Nf (Nf (Nf (Yt (Wk (b0 false) (b0 b)/\SameH z2 z2))))))))):=by kernel_rfl
def zayX:Orc:=HF (HF (Orc.f (Orc.t (HF (HF (HF (HT (Orc.t Orc.z))))))))
theorem zatY (ns:List AV)(p:Int)(ks:List (Bool × Int))(b:Bool):gRgU zayX ns p ks b=(let z1:=(List.getD ns (0+Int.toNat p) uu); let z2:=(strA (nthA 3 z1)); (decide ((0:Int)<=p/\p<(↑(List.length ns):Int))&&(true&&Nat.beq 5 5))=true/\(true&&(Nat.ble (0+Int.toNat p+1) (List.length ns)&&zaak (Cx.B (cxV (XRk ns ks) 12 fRgt)) shN 33 z1))=true/\(intA (nthA 0 z1)==1)=false/\(intA (nthA 0 z1)==2)=false/\(intA (nthA 0 z1)==3)=false/\(intA (nthA 0 z1)==4)=false/\(intA (nthA 0 z1)==8)=false/\(intA (nthA 0 z1)==9)=false/\(intA (nthA 0 z1)==5)=false/\(intA (nthA 0 z1)==6)=false/\(intA (nthA 0 z1)==7)=false/\(intA (nthA 0 z1)==10)=true/\(ByteArray.toList z2==ByteArray.toList wAll)=false/\(ByteArray.toList z2==ByteArray.toList zabC)=false/\(ByteArray.toList z2==ByteArray.toList zaam)=false/\(ByteArray.toList z2==ByteArray.toList zaai)=false/\(ByteArray.toList z2==ByteArray.toList zaaf)=false/\(ByteArray.toList z2==ByteArray.toList wAnc)=false/\(ByteArray.toList z2==ByteArray.toList zabZ)=false/\(ByteArray.toList z2==ByteArray.toList zaaX)=false/\(ByteArray.toList z2==ByteArray.toList zaa3)=false/\(ByteArray.toList z2==ByteArray.toList zaaY)=false/\(ByteArray.toList z2==ByteArray.toList zacx)=false/\(ByteArray.toList z2==ByteArray.toList zaa8)=false/\((-1:Int) != (↑(List.length (elsA (nthA 4 z1))):Int))=true/\Yt4 (Wk (b0 false) (b0 b)/\SameH (hpL [eR 1048577 [0,0] 5 ns]) (hpL [eR 1048577 [0,0] 5 ns]))):=by kernel_rfl
def zayY:Orc:=HF (HF (Orc.f (Orc.f (HT (Orc.t Orc.z)))))
theorem zat0 (ns:List AV)(p:Int)(ks:List (Bool × Int))(b:Bool):gRgO zayY ns p ks b=(let z1:=(nthA 0 (List.getD ns (0+Int.toNat p) uu)); let z2:=(List.getD ns (0+Int.toNat p) uu); (decide ((0:Int)<=p/\p<(↑(List.length ns):Int))&&(true&&Nat.beq 5 5))=true/\(true&&(Nat.ble (0+Int.toNat p+1) (List.length ns)&&zaak (Cx.B (cxV (XRk ns ks) 12 fRgt)) shN 33 z2))=true/\(intA z1==1)=false/\(intA z1==2)=false/\(intA z1==3)=false/\(intA z1==4)=false/\(intA z1==8)=false/\(intA z1==9)=false/\(intA z1==5)=false/\(intA z1==6)=false/\(intA z1==7)=false/\(intA z1==10)=false/\((-1:Int) != (↑(List.length (elsA (nthA 4 z2))):Int))=true/\Yt4 (Wk (b0 false) (b0 b)/\SameH (hpL [eR 1048577 [0,0] 5 ns]) (hpL [eR 1048577 [0,0] 5 ns]))):=by kernel_rfl
end Go.Proofs.YtpofhijgccocpaaGreatDoor
end
section
namespace Go.Proofs.YtpofhijgccocpaaGreatDoor
open Go Go.AS Go.TP
theorem zaut (ns:List AV)(p k:Int)(a m:Int)(t:ByteArray):gNd0 (Orc.f Orc.z) ns p k a m t=(let z1:=(List.getD ns (0+Int.toNat p) uu); (decide ((0:Int)<=p/\p<(↑(List.length ns):Int))&&(true&&true))=true/\(true&&(Nat.ble (0+Int.toNat p+1) (List.length ns)&&zaak (Cx.B (cxV (WX.askAt (WX.ask XB [zaa1]) zaa1 [11,12,35,36,39]) 12 zaa1)) shN 33 z1))=true/\decide ((0:Int)<(↑(List.length (elsA (nthA 4 z1))):Int))=false/\Wk (AV.agg [i0 (intA (nthA 0 z1)),i0 (intA (nthA 1 z1)),i0 (intA (nthA 2 z1)),s0 (strA (nthA 3 z1)),AV.lit (Value.slice none 0 0)]) (AV.agg [i0 k,i0 a,i0 m,s0 t,AV.lst false 5 []])/\SameH (hpL [eR 1048577 [0,0] 5 ns]) (hpL [eR 1048577 [0,0] 5 ns])):=by kernel_rfl
theorem zaus (ns:List AV)(p k:Int)(a m:Int)(t:ByteArray)(k1 a1 m1:Int)(t1:ByteArray)(v1:List AV)(b:Int):gNd1 (Orc.t (Orc.f Orc.z)) ns p k a m t k1 a1 m1 t1 v1 b=(let z1:=[AV.agg [i0 k1,i0 a1,i0 m1,s0 t1,AV.lst false 5 v1]]; let z2:=(List.getD ns (0+Int.toNat p) uu); let z3:=(Cx.B (cxV (WX.askAt (WX.ask (XNd ns [(nV k1 a1 m1 t1 v1,b)]) [zaa1]) zaa1 [11,12,35,36,39]) 12 zaa1)); let z4:=(↑(List.length (elsA (nthA 4 z2))):Int); let z5:=[eR 1048577 [0,0] 5 ns]; let z6:=AV.agg [AV.slc 1048577 [0,0] 0 (List.length ns)]; let z7:=(List.getD (elsA (nthA 4 z2)) 0 uu); (decide ((0:Int)<=p/\p<(↑(List.length ns):Int))&&(true&&Nat.beq 5 5))=true/\(true&&(Nat.ble (0+Int.toNat p+1) (List.length ns)&&zaak z3 shN 33 z2))=true/\decide ((0:Int)<z4)=true/\(decide ((0:Int)<=(0:Int)/\(0:Int)<z4)&&(Nat.beq 1 1&&(zaak z3 shN 3 z7&&(false||true))))=true/\∃ (_:Unit),(True/\Wks [z6,i0 (intA z7)] [z6,i0 b]/\hpL z5=hpL z5)/\decide (List.length z1*64<=140737488355328/\List.length z1<=1152921504606846976)=true/\Yt (decide ((1:Int)<z4)=false/\0+List.length z1<=List.length z1/\0+List.length z1<=List.length z1/\0+List.length z1<=List.length z1/\Wk (AV.agg [i0 (intA (nthA 0 z2)),i0 (intA (nthA 1 z2)),i0 (intA (nthA 2 z2)),s0 (strA (nthA 3 z2)),AV.lst false 5 z1]) (AV.agg [i0 k,i0 a,i0 m,s0 t,AV.lst false 5 z1])/\SameH (hpL z5) (hpL z5))):=by kernel_rfl
theorem zaur (ns:List AV)(p k:Int)(a m:Int)(t:ByteArray)(k1 a1 m1:Int)(t1:ByteArray)(v1:List AV)(k2 a2 m2:Int)(t2:ByteArray)(v2:List AV)(b c:Int):gNd2 (Orc.t (Orc.alt 0 (Orc.t (Orc.alt 1 (Orc.f Orc.z))))) ns p k a m t k1 a1 m1 t1 v1 k2 a2 m2 t2 v2 b c=(let z1:=[AV.agg [i0 k1,i0 a1,i0 m1,s0 t1,AV.lst false 5 v1],AV.agg [i0 k2,i0 a2,i0 m2,s0 t2,AV.lst false 5 v2]]; let z2:=(List.getD ns (0+Int.toNat p) uu); let z3:=(Cx.B (cxV (WX.askAt (WX.ask (XNd ns [(nV k1 a1 m1 t1 v1,b),(nV k2 a2 m2 t2 v2,c)]) [zaa1]) zaa1 [11,12,35,36,39]) 12 zaa1)); let z4:=[AV.agg [i0 k1,i0 a1,i0 m1,s0 t1,AV.lst false 5 v1]]; let z5:=(↑(List.length (elsA (nthA 4 z2))):Int); let z6:=AV.agg [AV.slc 1048577 [0,0] 0 (List.length ns)]; let z7:=[eR 1048577 [0,0] 5 ns]; let z8:=(elsA (nthA 4 z2)); (decide ((0:Int)<=p/\p<(↑(List.length ns):Int))&&(true&&Nat.beq 5 5))=true/\(true&&(Nat.ble (0+Int.toNat p+1) (List.length ns)&&zaak z3 shN 33 z2))=true/\decide ((0:Int)<z5)=true/\(decide ((0:Int)<=(0:Int)/\(0:Int)<z5)&&(Nat.beq 1 1&&(zaak z3 shN 3 (List.getD z8 0 uu)&&(false||true))))=true/\∃ (_:Unit),(True/\Wks [z6,i0 (intA (List.getD z8 0 uu))] [z6,i0 b]/\hpL z7=hpL z7)/\decide (List.length z4*64<=140737488355328/\List.length z4<=1152921504606846976)=true/\Yt (decide ((1:Int)<z5)=true/\(decide ((0:Int)<=(1:Int)/\(1:Int)<z5)&&(Nat.beq 1 1&&(zaak z3 shN 3 (List.getD z8 1 uu)&&(false||true))))=true/\∃ (_:Unit),(True/\Wks [z6,i0 (intA (List.getD z8 1 uu))] [z6,i0 c]/\hpL z7=hpL z7)/\(true&&(Nat.beq 5 5&&Nat.ble (0+List.length z4) (List.length z4))&&(Nat.beq 5 5&&decide (List.length z1*64<=140737488355328/\List.length z1<=1152921504606846976)))=true/\Yt (decide ((2:Int)<z5)=false/\0+List.length z1<=List.length z1/\0+List.length z1<=List.length z1/\0+List.length z1<=List.length z1/\Wk (AV.agg [i0 (intA (nthA 0 z2)),i0 (intA (nthA 1 z2)),i0 (intA (nthA 2 z2)),s0 (strA (nthA 3 z2)),AV.lst false 5 z1]) (AV.agg [i0 k,i0 a,i0 m,s0 t,AV.lst false 5 z1])/\SameH (hpL z7) (hpL z7)))):=by kernel_rfl
theorem zauq (ns:List AV)(p k:Int)(a m:Int)(t:ByteArray)(k1 a1 m1:Int)(t1:ByteArray)(v1:List AV)(k2 a2 m2:Int)(t2:ByteArray)(v2:List AV)(k3 a3 m3:Int)(t3:ByteArray)(v3:List AV)(b c d:Int):gNd3 (Orc.t (Orc.alt 0 (Orc.t (Orc.alt 1 (Orc.t (Orc.alt 2 (Orc.f Orc.z))))))) ns p k a m t k1 a1 m1 t1 v1 k2 a2 m2 t2 v2 k3 a3 m3 t3 v3 b c d=(let z1:=[AV.agg [i0 k1,i0 a1,i0 m1,s0 t1,AV.lst false 5 v1],AV.agg [i0 k2,i0 a2,i0 m2,s0 t2,AV.lst false 5 v2],AV.agg [i0 k3,i0 a3,i0 m3,s0 t3,AV.lst false 5 v3]]; let z2:=(elsA (nthA 4 (List.getD ns (0+Int.toNat p) uu))); let z3:=(Cx.B (cxV (WX.askAt (WX.ask (XNd ns [(nV k1 a1 m1 t1 v1,b),(nV k2 a2 m2 t2 v2,c),(nV k3 a3 m3 t3 v3,d)]) [zaa1]) zaa1 [11,12,35,36,39]) 12 zaa1)); let z4:=AV.agg [i0 k1,i0 a1,i0 m1,s0 t1,AV.lst false 5 v1]; let z5:=AV.agg [AV.slc 1048577 [0,0] 0 (List.length ns)]; let z6:=[z4,AV.agg [i0 k2,i0 a2,i0 m2,s0 t2,AV.lst false 5 v2]]; let z7:=[eR 1048577 [0,0] 5 ns]; let z8:=(↑(List.length z2):Int); let z9:=(List.getD ns (0+Int.toNat p) uu); (decide ((0:Int)<=p/\p<(↑(List.length ns):Int))&&(true&&Nat.beq 5 5))=true/\(true&&(Nat.ble (0+Int.toNat p+1) (List.length ns)&&zaak z3 shN 33 z9))=true/\decide ((0:Int)<z8)=true/\(decide ((0:Int)<=(0:Int)/\(0:Int)<z8)&&(Nat.beq 1 1&&(zaak z3 shN 3 (List.getD z2 0 uu)&&(false||true))))=true/\∃ (_:Unit),(True/\Wks [z5,i0 (intA (List.getD z2 0 uu))] [z5,i0 b]/\hpL z7=hpL z7)/\decide (List.length [z4]*64<=140737488355328/\List.length [z4]<=1152921504606846976)=true/\Yt (decide ((1:Int)<z8)=true/\(decide ((0:Int)<=(1:Int)/\(1:Int)<z8)&&(Nat.beq 1 1&&(zaak z3 shN 3 (List.getD z2 1 uu)&&(false||true))))=true/\∃ (_:Unit),(True/\Wks [z5,i0 (intA (List.getD z2 1 uu))] [z5,i0 c]/\hpL z7=hpL z7)/\(true&&(Nat.beq 5 5&&Nat.ble (0+List.length [z4]) (List.length [z4]))&&(Nat.beq 5 5&&decide (List.length z6*64<=140737488355328/\List.length z6<=1152921504606846976)))=true/\Yt (decide ((2:Int)<z8)=true/\(decide ((0:Int)<=(2:Int)/\(2:Int)<z8)&&(Nat.beq 1 1&&(zaak z3 shN 3 (List.getD z2 2 uu)&&(false||true))))=true/\∃ (_:Unit),(True/\Wks [z5,i0 (intA (List.getD z2 2 uu))] [z5,i0 d]/\hpL z7=hpL z7)/\(true&&(Nat.beq 5 5&&Nat.ble (0+List.length z6) (List.length z6))&&(Nat.beq 5 5&&decide (List.length z1*64<=140737488355328/\List.length z1<=1152921504606846976)))=true/\Yt (decide ((3:Int)<z8)=false/\0+List.length z1<=List.length z1/\0+List.length z1<=List.length z1/\0+List.length z1<=List.length z1/\Wk (AV.agg [i0 (intA (nthA 0 z9)),i0 (intA (nthA 1 z9)),i0 (intA (nthA 2 z9)),s0 (strA (nthA 3 z9)),AV.lst false 5 z1]) (AV.agg [i0 k,i0 a,i0 m,s0 t,AV.lst false 5 z1])/\SameH (hpL z7) (hpL z7))))):=by kernel_rfl
end Go.Proofs.YtpofhijgccocpaaGreatDoor
end
section
namespace Go.Proofs.YtpofhijgccocpaaGreatDoor
open Go Go.AS Go.TP
end Go.Proofs.YtpofhijgccocpaaGreatDoor
end
section
namespace Go.TP
open Go.AS
mutual
def zaxy:Nd->Bool
 | .mk k _ _ t ks=>!(decide (k=10)&&(decide (t=wAnc)||decide (t=zabZ)))&&zavJ ks
def zavJ:List Nd->Bool
 | []=>true
 | n::r=>zaxy n&&zavJ r
end
def RN.zero:RN:=⟨0,0,0,ByteArray.empty,[]⟩
def ndR (l:List RN)(k:Nat):RN:=l.getD k RN.zero
theorem Rep.inv {l:List RN}{p:Nat}{x:Nd}(h:Rep l p x):p<l.length/\(ndR l p).kind=x.kind/\(ndR l p).at_=x.at_/\(ndR l p).n=x.num/\(ndR l p).text=x.text/\(ndR l p).kids.length=x.kids.length/\(∀ b∈(ndR l p).kids,b<p) /\
  ∀ (i b:Nat) (y:Nd),(ndR l p).kids[i]?=some b->x.kids[i]?=some y->Rep l b y:=by
 cases h with
 | mk _ x ks hx hl hlt hk =>
  have e:ndR l p=x:=by unfold ndR; rw [List.getD_eq_getElem?_getD,hx]; rfl
  rw [e]
  exact ⟨(List.getElem?_eq_some_iff.1 hx).1,rfl,rfl,rfl,rfl,hl,hlt,hk⟩
theorem Rep.take {l:List RN}{p:Nat}{x:Nd}(h:Rep l p x):∀ {q:Nat},p<q->Rep (l.take q) p x:=by
 induction h with
 | mk a x ks hx hl hlt hk ih =>
  intro q hq
  refine .mk a x ks ?_ hl hlt fun i b k h1 h2=>ih i b k h1 h2 (Nat.lt_trans (hlt b (List.mem_of_getElem? h1)) hq)
  rw [List.getElem?_take,if_pos hq]; exact hx
end Go.TP
end
section
namespace Go.Proofs.YtpofhijgccocpaaGreatDoor
open Go.AS Go.TP
noncomputable section
theorem zawH {l:List RN}{p:Nat}{n:Nd}(h:Rep l p n):(l.map xE).getD (p:Int).toNat (AV.lit (Value.tuple ⟨[]⟩))=rgV n.kind n.at_ n.num n.text ((ndR l p).kids.map fun j:Nat=>i0 (j:Int))/\(p:Int)<((l.map xE).length:Int):=by
 obtain ⟨h1,h2,h3,h4,h5,_⟩:=h.inv
 rw [List.length_map,Int.toNat_natCast,List.getD_eq_getElem?_getD,List.getElem?_map]
 unfold ndR at h2 h3 h4 h5 ⊢
 rw [List.getD_eq_getElem?_getD] at h2 h3 h4 h5 ⊢
 rw [List.getElem?_eq_getElem h1] at h2 h3 h4 h5 ⊢
 refine ⟨?_,by omega⟩
 rw [<-h2,<-h3,<-h4,<-h5]; rfl
end
end Go.Proofs.YtpofhijgccocpaaGreatDoor
end
section
namespace Go.TP
open Go.AS
mutual
def fanS:Nd->Bool
 | .mk _ _ _ _ ks=>decide (ks.length<=3)&&fanL ks
def fanL:List Nd->Bool
 | []=>true
 | n::r=>fanS n&&fanL r
end
theorem zalk:∀ {l:List Nd},fanL l=true↔∀ x∈l,fanS x=true
 | []=>by simp [fanL]
 | n::r=>by simp [fanL,zalk (l:=r)]
theorem zag3 {k a n:Int}{t:ByteArray}{ks:List Nd}:fanS (.mk k a n t ks)=true↔ks.length<=3/\∀ x∈ks,fanS x=true:=by
 rw [fanS,Bool.and_eq_true,decide_eq_true_iff,zalk]
end Go.TP
end
section
namespace Go.Proofs.YtpofhijgccocpaaGreatDoor
open Go.AS Go.TP
noncomputable section
theorem zaeA {l:List RN}{p:Nat}{n:Nd}(h:Rep l p n):(l.map xE).getD (0+(p:Int).toNat) (AV.lit (Value.tuple ⟨[]⟩))=rgV n.kind n.at_ n.num n.text ((ndR l p).kids.map fun j:Nat=>i0 (j:Int))/\0+(p:Int).toNat+1<=(l.map xE).length/\(p:Int)<((l.map xE).length:Int):=by
 obtain ⟨e1,e2⟩:=zawH h
 rw [Nat.zero_add]
 exact ⟨e1,by omega,e2⟩
theorem zaAm (k a m:Int)(t:ByteArray)(vs:List AV):zaak (Cx.B (cxV XB 12 zaa1)) shN 33 (rgV k a m t vs)=true:=by kernel_rfl
theorem zaAl (b:Int):zaak (Cx.B (cxV XB 12 zaa1)) shN 3 (i0 b)=true:=by kernel_rfl
attribute [local irreducible] runF in
set_option maxRecDepth 100000 in
theorem ndFn {X:WX}(hX:X.Sound)(hp:X.px=X0){os:Orc}{ns:List AV}{p:Int}{fz:Nat}{r:AV}(g:gNd X os ns p fz r):FOk Tryz.prog gl0 zaa1 [tS ns.length,i0 p] (rowH ns) ⟨r,rowH ns,[]⟩:=by
 have hP:X.px.P=Tryz.prog:=by rw [hp]; rfl
 have hg:X.px.gl=gl0:=by rw [hp]; rfl
 have:=zadS (X:=(X.ask [zaa1]).askAt zaa1 [11,12,35,36,39]) (d:=12) ((hX.ask _).askAt _ _) (f:=zaa1) (fn:=fn zaa1) (code:=code zaa1) (by show X.px.P.funcs[zaa1]?=_; rw [hP]; exact fnOk zaa1 (by kernel_rfl)) (show (fn zaa1).body=some (code zaa1) by kernel_rfl) (by kernel_rfl) g
 show FOk Tryz.prog gl0 zaa1 _ _ _
 rw [<-hg,<-hP]; exact this
abbrev NdOk (l:List RN)(p:Nat)(n:Nd):Prop:=FOk Tryz.prog gl0 zaa1 [tS (l.map xE).length,i0 (p:Int)] (rowH (l.map xE)) ⟨encP n,rowH (l.map xE),[]⟩
theorem ndC {ns:List AV}{ks:List (AV × Int)}(h:∀ q∈ks,FOk Tryz.prog gl0 zaa1 [tS ns.length,i0 q.2] (rowH ns) ⟨q.1,rowH ns,[]⟩):(XNd ns ks).Sound :=
 zabg.add (Sp.ok fun s hs i _=>by
  rw [List.mem_map] at hs
  obtain ⟨q,hq,rfl⟩:=hs
  exact h q hq)
attribute [local irreducible] runF in
set_option maxRecDepth 100000 in
theorem zasv {l:List RN}(n:Nd):fanS n=true->∀ p,Rep l p n->NdOk l p n:=by
 refine Nd.rec (motive_1:=fun n=>fanS n=true->∀ p,Rep l p n->NdOk l p n)
  (motive_2:=fun ks=>∀ x∈ks,fanS x=true->∀ p,Rep l p x->NdOk l p x) ?_ (fun x hx=>by cases hx) (fun x r h1 h2 y hy => ?_) n
 · intro k a m t ks ih hr p hR
   obtain ⟨e1,e2,e3⟩:=zaeA hR
   obtain ⟨_,_,_,_,_,hkl,hlt,hk⟩:=hR.inv
   obtain ⟨hks,hkr⟩:=zag3.1 hr
   have hlen:(ndR l p).kids.length=ks.length:=hkl
   have c1:(decide ((0:Int)<=p/\(p:Int)<((l.map xE).length:Int))&&(true&&true))=true:=by rw [decide_eq_true ⟨by omega,e3⟩]; rfl
   have c2:∀ B:Tb,B=Cx.B (cxV XB 12 zaa1)->(true&&(Nat.ble (0+(p:Int).toNat+1) (l.map xE).length&&zaak B shN 33 ((l.map xE).getD (0+(p:Int).toNat) (AV.lit (Value.tuple ⟨[]⟩)))))=true:=by
     intro B hB; subst hB
     rw [e1,zaAm,Nat.ble_eq_true_of_le e2]; rfl
   have ci:∀ b:Nat,(true&&(true&&(zaak (Cx.B (cxV XB 12 zaa1)) shN 3 (i0 (b:Int))&&true)))=true:=fun b=>by rw [zaAl]; rfl
   generalize hkk:(ndR l p).kids=kk at e1 hlen hlt hk
   match ks,kk,hlen,hks with
   | [],[],_,_ =>
     refine ndFn zabg rfl (fz:=0) (os:=(Orc.f Orc.z)) (show gNd0 _ (l.map xE) p k a m t from (zaut (l.map xE) p k a m t).mpr ⟨c1,c2 _ rfl,?_⟩)
     rw [e1]
     exact ⟨rfl, .agg (.cons (.refl _) (.cons (.refl _) (.cons (.refl _) (.cons (.refl _) (.cons .nilS .nil))))), .rfl⟩
   | [x],[b],_,_ =>
     obtain ⟨k1,a1,m1,t1,ks1⟩:=x
     have hx:=ih _ (List.mem_cons_self ..) (hkr _ (List.mem_cons_self ..)) b (hk 0 b _ rfl rfl)
     refine ndFn (ndC (ks:=[(nV k1 a1 m1 t1 (encL ks1),(b:Int))]) fun q hq=>by
       rw [List.mem_singleton] at hq; subst hq; exact hx) rfl (fz:=1) (os:=(Orc.t (Orc.f Orc.z))) (show gNd1 _ (l.map xE) p k a m t k1 a1 m1 t1 (encL ks1) b from (zaus (l.map xE) p k a m t k1 a1 m1 t1 (encL ks1) b).mpr ⟨c1,c2 _ rfl,?_⟩)
     rw [e1]
     exact ⟨rfl,ci b,(),⟨trivial, .refl _,rfl⟩,rfl,rfl,rfl,Nat.le_of_eq (Nat.zero_add _),Nat.le_of_eq (Nat.zero_add _),Nat.le_of_eq (Nat.zero_add _), .refl _, .rfl⟩
   | [x,y],[b,c],_,_ =>
     obtain ⟨k1,a1,m1,t1,ks1⟩:=x
     obtain ⟨k2,a2,m2,t2,ks2⟩:=y
     have hx:=ih _ (List.mem_cons_self ..) (hkr _ (List.mem_cons_self ..)) b (hk 0 b _ rfl rfl)
     have hy:=ih _ (List.mem_cons_of_mem _ (List.mem_cons_self ..)) (hkr _ (List.mem_cons_of_mem _ (List.mem_cons_self ..))) c (hk 1 c _ rfl rfl)
     refine ndFn (ndC (ks:=[(nV k1 a1 m1 t1 (encL ks1),(b:Int)),(nV k2 a2 m2 t2 (encL ks2),(c:Int))]) fun q hq=>by
       rcases List.mem_cons.1 hq with rfl | hq
       · exact hx
       · rw [List.mem_singleton] at hq; subst hq; exact hy) rfl (fz:=1) (os:=(Orc.t (Orc.alt 0 (Orc.t (Orc.alt 1 (Orc.f Orc.z)))))) (show gNd2 _ (l.map xE) p k a m t k1 a1 m1 t1 (encL ks1) k2 a2 m2 t2 (encL ks2) b c from (zaur (l.map xE) p k a m t k1 a1 m1 t1 (encL ks1) k2 a2 m2 t2 (encL ks2) b c).mpr ⟨c1,c2 _ rfl,?_⟩)
     rw [e1]
     exact ⟨rfl,ci b,(),⟨trivial, .refl _,rfl⟩,rfl,rfl,rfl,ci c,(),⟨trivial, .refl _,rfl⟩,rfl,rfl,rfl,Nat.le_of_eq (Nat.zero_add _),Nat.le_of_eq (Nat.zero_add _),Nat.le_of_eq (Nat.zero_add _), .refl _, .rfl⟩
   | [x,y,z],[b,c,d],_,_ =>
     obtain ⟨k1,a1,m1,t1,ks1⟩:=x
     obtain ⟨k2,a2,m2,t2,ks2⟩:=y
     obtain ⟨k3,a3,m3,t3,ks3⟩:=z
     have hx:=ih _ (List.mem_cons_self ..) (hkr _ (List.mem_cons_self ..)) b (hk 0 b _ rfl rfl)
     have hy:=ih _ (List.mem_cons_of_mem _ (List.mem_cons_self ..)) (hkr _ (List.mem_cons_of_mem _ (List.mem_cons_self ..))) c (hk 1 c _ rfl rfl)
     have hz:=ih _ (List.mem_cons_of_mem _ (List.mem_cons_of_mem _ (List.mem_cons_self ..))) (hkr _ (List.mem_cons_of_mem _ (List.mem_cons_of_mem _ (List.mem_cons_self ..)))) d (hk 2 d _ rfl rfl)
     refine ndFn (ndC (ks:=[(nV k1 a1 m1 t1 (encL ks1),(b:Int)),(nV k2 a2 m2 t2 (encL ks2),(c:Int)),(nV k3 a3 m3 t3 (encL ks3),(d:Int))]) fun q hq=>by
       rcases List.mem_cons.1 hq with rfl | hq
       · exact hx
       · rcases List.mem_cons.1 hq with rfl | hq
         · exact hy
         · rw [List.mem_singleton] at hq; subst hq; exact hz) rfl (fz:=1) (os:=(Orc.t (Orc.alt 0 (Orc.t (Orc.alt 1 (Orc.t (Orc.alt 2 (Orc.f Orc.z)))))))) (show gNd3 _ (l.map xE) p k a m t k1 a1 m1 t1 (encL ks1) k2 a2 m2 t2 (encL ks2) k3 a3 m3 t3 (encL ks3) b c d from (zauq (l.map xE) p k a m t k1 a1 m1 t1 (encL ks1) k2 a2 m2 t2 (encL ks2) k3 a3 m3 t3 (encL ks3) b c d).mpr ⟨c1,c2 _ rfl,?_⟩)
     rw [e1]
     exact ⟨rfl,ci b,(),⟨trivial, .refl _,rfl⟩,rfl,rfl,rfl,ci c,(),⟨trivial, .refl _,rfl⟩,rfl,rfl,rfl,ci d,(),⟨trivial, .refl _,rfl⟩,rfl,rfl,rfl,Nat.le_of_eq (Nat.zero_add _),Nat.le_of_eq (Nat.zero_add _),Nat.le_of_eq (Nat.zero_add _), .refl _, .rfl⟩
 · rcases List.mem_cons.1 hy with rfl | hy
   · exact h1
   · exact h2 y hy
end
end Go.Proofs.YtpofhijgccocpaaGreatDoor
end
section
namespace Go.Proofs.YtpofhijgccocpaaGreatDoor
open Go Go.AS Go.TP
def orUP:Orc:=Orc.s (Orc.s (Orc.t (Orc.t (Orc.t (Orc.s (HT (Orc.t (Orc.f Orc.z))) (HF (Orc.s (Orc.t (Orc.t (Orc.t (Orc.f (Orc.s Orc.z Orc.z))))) (HF (Orc.t Orc.z)))))))) (HF (HF (Orc.s (Orc.t (Orc.t (Orc.t (Orc.f (Orc.s Orc.z Orc.z))))) (HF (Orc.t Orc.z)))))) Orc.z
theorem zawv (P:Prop)(ex:Ex)(x:ByteArray)(i:Int):rUP orUP P ex x i=(let z1:=(P/\Wks [s0 x,b0 false,i0 (i+1)] [s0 x,b0 false,i0 (i+1)]/\hpL []=hpL [])/\ex=ex/\Wk (AV.tup [s0 x,b0 false]) (AV.tup [s0 x,b0 false])/\SameH (hpL []) (hpL []); let z2:=(↑(zaaa x (Int.toNat i)):Int); let z3:=((0:Int)<=i/\i<(↑(ByteArray.size x):Int)); let z4:=(AV.tup [s0 x,b0 false]); let z5:=(!decide (z2<=102)); (decide (i<(↑(ByteArray.size x):Int))=true->decide z3=true/\(decide (z2>=48)=true->Yt (Yt (decide z3=true/\Yt ((decide (z2<=57)=true->Yt4 (Yt (Nf (inR IntKind.i64 (i+1)=true/\∃ (_:Unit),z1))))/\(decide (z2<=57)=false->Nf (Nf (decide z3=true/\Nf (Nf ((decide (z2>=97)=true->Yt (Yt (decide z3=true/\Yt (Nf ((z5=true->Ex.ret=ex/\Wk z4 z4/\SameH (hpL []) (hpL []))/\(z5=false->inR IntKind.i64 (i+1)=true/\∃ (_:Unit),z1))))))/\(decide (z2>=97)=false->Nf4 (Yt (Ex.ret=ex/\Wk z4 z4/\SameH (hpL []) (hpL [])))))))))))))/\(decide (z2>=48)=false->Nf4 (Nf (Nf (decide z3=true/\Nf (Nf ((decide (z2>=97)=true->Yt (Yt (decide z3=true/\Yt (Nf ((z5=true->Ex.ret=ex/\Wk z4 z4/\SameH (hpL []) (hpL []))/\(z5=false->inR IntKind.i64 (i+1)=true/\∃ (_:Unit),z1))))))/\(decide (z2>=97)=false->Nf4 (Yt (Ex.ret=ex/\Wk z4 z4/\SameH (hpL []) (hpL [])))))))))))/\(decide (i<(↑(ByteArray.size x):Int))=false->Ex.exit 0=ex/\Wk z4 z4/\SameH (hpL []) (hpL []))):=by kernel_rfl
def zayJ:Orc:=Orc.s (Orc.t (Orc.t Orc.z)) (Orc.f (Orc.f Orc.z))
theorem zatq (x:ByteArray)(b:Bool):gUPE zayJ x b=(let z1:=(↑(ByteArray.size x):Int); U1 [s0 x,b0 false,i0 0] [] ((decide (z1>=1)=true->Yt (Yt (Wk (b0 (decide (z1<=64))) (b0 b)/\SameH (hpL []) (hpL []))))/\(decide (z1>=1)=false->Nf (Nf (Wk (b0 false) (b0 b)/\SameH (hpL []) (hpL [])))))):=by kernel_rfl
theorem zatp (x:ByteArray):gUPR (Orc.z) x=(U1 [s0 x,b0 false,i0 0] [] (Wk (b0 false) (b0 false)/\SameH (hpL []) (hpL []))):=by kernel_rfl
end Go.Proofs.YtpofhijgccocpaaGreatDoor
end
section
namespace Go.Proofs.YtpofhijgccocpaaGreatDoor
open Go.AS Go.TP
noncomputable section
theorem zapR {c:Nat}:hexQ c=true↔(48<=c/\c<=57)∨(97<=c/\c<=102):=by
 unfold hexQ
 rw [Bool.or_eq_true,Bool.and_eq_true,Bool.and_eq_true,decide_eq_true_iff,decide_eq_true_iff,decide_eq_true_iff,decide_eq_true_iff]
theorem zamu {P:Prop}{ex:Ex}{x:ByteArray}{i:Int}(hx:x.size<=1000000)(h0:0<=i)(hg:i<x.size->hexQ (zaaa x i.toNat)=true->P)(hb:i<x.size->¬hexQ (zaaa x i.toNat)=true->ex = .ret)(he:¬i<x.size->ex = .exit 0) :
  rUP orUP P ex x i:=by
 rw [zawv]
 rw [zapR] at hg hb
 generalize zaaa x i.toNat=c at hg hb
 have lp:i<x.size->((48<=c/\c<=57)∨(97<=c/\c<=102))->inR .i64 (i+1)=true/\P:=fun h q=>⟨zaao (by omega) (by omega),hg h q⟩
 have tail:i<x.size->¬(48<=c/\c<=57)->(decide ((c:Int)>=97)=true->((!decide ((c:Int)<=102))=true->Ex.ret=ex)/\((!decide ((c:Int)<=102))=false->inR .i64 (i+1)=true/\P))/\(decide ((c:Int)>=97)=false->Ex.ret=ex):=by
  intro h q
  refine ⟨fun a=>⟨fun b=>(hb h ?_).symm,fun b=>lp h (.inr ?_)⟩,fun a=>(hb h ?_).symm⟩
  · have a:=of_decide_eq_true a
    rw [Bool.not_eq_true'] at b
    have b:=of_decide_eq_false b
    omega
  · have a:=of_decide_eq_true a
    rw [Bool.not_eq_false'] at b
    have b:=of_decide_eq_true b
    omega
  · have a:=of_decide_eq_false a
    omega
 refine ⟨fun h => ?_,fun h=>⟨(he (of_decide_eq_false h)).symm, .refl _, .rfl⟩⟩
 have h:=of_decide_eq_true h
 have idx:decide (0<=i/\i<(x.size:Int))=true:=decide_eq_true ⟨h0,h⟩
 refine ⟨idx,fun a=>⟨rfl,rfl,idx,rfl,fun b => ?_,fun b => ?_⟩,fun a => ?_⟩
 · have a:=of_decide_eq_true a
   have b:=of_decide_eq_true b
   obtain ⟨q1,q2⟩:=lp h (.inl ⟨by omega,by omega⟩)
   exact ⟨rfl,rfl,rfl,rfl,rfl,rfl,q1,(),⟨q2, .refl _,rfl⟩,rfl, .refl _, .rfl⟩
 · have b:=of_decide_eq_false b
   obtain ⟨t1,t2⟩:=tail h (by omega)
   exact ⟨rfl,rfl,idx,rfl,rfl,fun c=>⟨rfl,rfl,idx,rfl,rfl,fun d=>⟨(t1 c).1 d, .refl _, .rfl⟩,fun d=>⟨((t1 c).2 d).1,(),⟨((t1 c).2 d).2, .refl _,rfl⟩,rfl, .refl _, .rfl⟩⟩,fun c=>⟨rfl,rfl,rfl,rfl,rfl,t2 c, .refl _, .rfl⟩⟩
 · have a:=of_decide_eq_false a
   obtain ⟨t1,t2⟩:=tail h (by omega)
   exact ⟨rfl,rfl,rfl,rfl,rfl,rfl,idx,rfl,rfl,fun c=>⟨rfl,rfl,idx,rfl,rfl,fun d=>⟨(t1 c).1 d, .refl _, .rfl⟩,fun d=>⟨((t1 c).2 d).1,(),⟨((t1 c).2 d).2, .refl _,rfl⟩,rfl, .refl _, .rfl⟩⟩,fun c=>⟨rfl,rfl,rfl,rfl,rfl,t2 c, .refl _, .rfl⟩⟩
abbrev BUP (xs:List AV)(r:Ex × Back):Prop:=zadp Tryz.prog gl0 (fn fPfx).ntmps (zabw (code fPfx) 0) [0,2,3] (fun _=>[0,2]) xs .nil fun _ q=>q=r
def exU (b:Bool):Ex:=match b with
 | true => .exit 0
 | false => .ret
attribute [local irreducible] runL in
set_option maxRecDepth 100000 in
theorem upL (x:ByteArray)(hx:x.size<=1000000):∀ (f:Nat) (i:Int),0<=i->x.size-i<=f->BUP (upA x i) (upO (exU (zaa0 zadB x i)) x):=by
 have rnd:∀ {os:Orc} {P:Prop} {ex:Ex} {i:Int},(P->BUP (upA x (i+1)) (upO ex x))->rUP os P ex x i->BUP (upA x i) (upO ex x) :=
  fun ih h=>zacD (X:=XB.ask [fPfx]) (zabg.ask _) (fnOk fPfx (by kernel_rfl)) (show (fn fPfx).body=some (code fPfx) by kernel_rfl) (by decide) ih h
 intro f
 induction f with
 | zero=>intro i h0 h1; rw [zabf (by omega)]; exact rnd (P:=False) (fun h=>h.elim) (zamu hx h0 (fun h=>by omega) (fun h=>by omega) (fun _=>rfl))
 | succ f ih =>
  intro i h0 h1
  by_cases hi:i<x.size
  · have ih:=ih (i+1) (by omega) (by omega)
    rw [zacg zak5 h0 hi]
    cases hd:hexQ (zaaa x i.toNat) with
    | false=>rw [Bool.false_and]; exact rnd (P:=False) (fun h=>h.elim) (zamu hx h0 (fun _ h=>by rw [hd] at h; cases h) (fun _ _=>rfl) (fun h=>absurd hi h))
    | true=>rw [Bool.true_and]; exact rnd (P:=True) (fun _=>ih) (zamu hx h0 (fun _ _=>trivial) (fun _ h=>absurd hd h) (fun h=>absurd hi h))
  · rw [zabf hi]; exact rnd (P:=False) (fun h=>h.elim) (zamu hx h0 (fun h=>absurd h hi) (fun h=>absurd h hi) (fun _=>rfl))
set_option maxRecDepth 100000 in
theorem zaz9 {x:ByteArray}{ex:Ex}(h:BUP (upA x 0) (upO ex x)):(XB.addLp fPfx 0 (lpUP True ex x 0)).Sound :=
 zabg.addLp (fnOk fPfx (by kernel_rfl)) (show (fn fPfx).body=some (code fPfx) by kernel_rfl) (by kernel_rfl)
  (Spl.ok (l:=[⟨Unit,fun _=>True,fun _=>upA x 0,fun _ => .nil,fun _=>upO ex x⟩]) rfl (show ([0,2,3]:List Nat).Nodup by decide) fun s' hs' i _=>by obtain rfl:=List.mem_singleton.1 hs'; exact h)
attribute [local irreducible] runF in
set_option maxRecDepth 100000 in
theorem upFn {x:ByteArray}{ex:Ex}{os:Orc}{b:Bool}(h:BUP (upA x 0) (upO ex x))(hg:gUP os ex x b):F fPfx [s0 x] (b0 b) :=
 zadS (X:=(XB.addLp fPfx 0 (lpUP True ex x 0)).ask [fPfx]) (d:=10) ((zaz9 h).ask _) (f:=fPfx) (fn:=fn fPfx) (code:=code fPfx) (fnOk fPfx (by kernel_rfl)) (show (fn fPfx).body=some (code fPfx) by kernel_rfl) (by kernel_rfl) hg
attribute [local irreducible] runF runL in
set_option maxRecDepth 100000 in
theorem zawE (x:ByteArray)(hx:x.size<=1000000):F fPfx [s0 x] (b0 (zaar x)):=by
 have h:=upL x hx x.size 0 (Int.le_refl _) (by omega)
 have e:zaar x=(zaa0 zadB x 0&&(decide (0<x.size)&&decide (x.size<=64))):=by
  unfold zaar zaa0; rw [show (0:Int).toNat=0 from rfl,List.drop_zero,Bool.and_assoc]
 rw [e]
 cases ha:zaa0 zadB x 0 with
 | true =>
  rw [ha] at h; rw [Bool.true_and]
  refine upFn h (show gUPE zayJ x _ from ?_)
  rw [zatq]
  refine ⟨(),⟨trivial, .refl _,rfl⟩,fun h => ?_,fun h => ?_⟩
  · have h:=of_decide_eq_true h
    refine ⟨rfl,rfl, .of_eq ?_, .rfl⟩
    rw [decide_eq_true (show 0<x.size by omega),Bool.true_and]
    exact congrArg (fun b=>b0 b) (decide_eq_decide.2 ⟨fun h=>by omega,fun h=>by omega⟩)
  · have h:=of_decide_eq_false h
    refine ⟨rfl,rfl, .of_eq ?_, .rfl⟩
    rw [decide_eq_false (show ¬0<x.size by omega)]; rfl
 | false =>
  rw [ha] at h; rw [Bool.false_and]
  exact upFn h (show gUPR Orc.z x from by rw [zatp]; exact ⟨(),⟨trivial, .refl _,rfl⟩, .refl _, .rfl⟩)
end
end Go.Proofs.YtpofhijgccocpaaGreatDoor
end
section
namespace Go.Proofs.YtpofhijgccocpaaGreatDoor
open Go.AS Go.TP
noncomputable section
theorem zaAh (_:List AV)(_:List (Bool × Int))(k a m:Int)(t:ByteArray)(vs:List AV):zaak (Cx.B (cxV XB 12 fRgt)) shN 33 (rgV k a m t vs)=true:=by kernel_rfl
theorem zaAi (b:Int):zaak (Cx.B (cxV XB 12 fRgt)) shN 3 (i0 b)=true:=by kernel_rfl
attribute [local irreducible] runF in
set_option maxRecDepth 100000 in
theorem rkFn {os:Orc}{ns:List AV}{p:Int}{ks:List (Bool × Int)}{b:Bool}(h:∀ q∈ks,FOk Tryz.prog gl0 fRgt [tS ns.length,i0 q.2] (rowH ns) ⟨b0 q.1,rowH ns,[]⟩)(g:gRk os ns p ks b):FOk Tryz.prog gl0 fRgt [tS ns.length,i0 p] (rowH ns) ⟨b0 b,rowH ns,[]⟩ :=
 zadS (X:=XRk ns ks) (d:=12) ((((zabg.add (zaoa (s:=spPf) fun x hx=>zawE x hx)).add (Sp.one (s:=spRk ns ks) fun q hq=>h q hq)).ask _).askAt _ _) (f:=fRgt) (fn:=fn fRgt) (code:=code fRgt) (fnOk fRgt (by kernel_rfl)) (show (fn fRgt).body=some (code fRgt) by kernel_rfl) (by kernel_rfl) g
def bbR (ar len:Int)(tb nb kb:Bool):Bool:=decide (ar=len)&&(tb&&(nb&&kb))
theorem bbL {ar len:Int}{tb nb kb:Bool}(h:(ar != len)=true):bbR ar len tb nb kb=false:=by
 unfold bbR; rw [decide_eq_false (bne_iff_ne.1 h)]; rfl
theorem bbT {ar len:Int}{tb nb kb:Bool}(h:(!tb)=true):bbR ar len tb nb kb=false:=by
 unfold bbR; rw [Bool.not_eq_true'] at h; rw [h]; simp
theorem bbN {ar len:Int}{tb nb kb:Bool}(h:(!nb)=true):bbR ar len tb nb kb=false:=by
 unfold bbR; rw [Bool.not_eq_true'] at h; rw [h]; simp
theorem bbK {ar len:Int}{tb nb kb:Bool}(h:kb=false):bbR ar len tb nb kb=false:=by
 unfold bbR; rw [h]; simp
theorem bbY {ar len:Int}{tb nb kb:Bool}(h1:(ar != len)=false)(h2:(!tb)=false)(h3:(!nb)=false)(h4:kb=true):bbR ar len tb nb kb=true:=by
 unfold bbR
 rw [Bool.not_eq_false'] at h2 h3
 have h1:ar=len:=by rw [bne_eq_false_iff_eq] at h1; exact h1
 rw [decide_eq_true h1,h2,h3,h4]; rfl
theorem bF {b:Bool}(h:b=false):Wk (b0 false) (b0 b):=by rw [h]; exact .refl _
theorem bT {b:Bool}(h:b=true):Wk (b0 true) (b0 b):=by rw [h]; exact .refl _
theorem nF {m:Int}(h:decide (m>=0)=false):(!(decide (m>=0)&&decide (m<=999999)))=true:=by rw [h]; rfl
theorem nG {m:Int}(h:decide (m>=0)=true)(g:(!decide (m<=999999))=true):(!(decide (m>=0)&&decide (m<=999999)))=true:=by rw [h]; exact g
theorem nM {m:Int}(h:decide (m>=0)=true)(g:(!decide (m<=999999))=false):(!(decide (m>=0)&&decide (m<=999999)))=false:=by rw [h]; exact g
theorem k1F {a:Bool}(h:(!a)=true):a=false:=by rwa [Bool.not_eq_true'] at h
theorem k1T {a:Bool}(h:(!a)=false):a=true:=by rwa [Bool.not_eq_false'] at h
theorem k2F {a b:Bool}(h:(!a)=true):(a&&b)=false:=by rw [k1F h]; rfl
theorem k2G {a b:Bool}(_:(!a)=false)(g:(!b)=true):(a&&b)=false:=by rw [k1F g,Bool.and_false]
theorem k2T {a b:Bool}(h:(!a)=false)(g:(!b)=false):(a&&b)=true:=by rw [k1T h,k1T g]; rfl
section
variable {l:List RN} {p:Nat} {k a m:Int} {t:ByteArray} {ks:List Nd} {kk:List Nat}
structure RkH (l:List RN) (p:Nat) (k a m:Int) (t:ByteArray) (kk:List Nat):Prop where
 e:(l.map xE).getD (0+(p:Int).toNat) (AV.lit (Value.tuple ⟨[]⟩))=rgV k a m t (kk.map fun j:Nat=>i0 (j:Int))
 l1:0+(p:Int).toNat+1<=(l.map xE).length
 l2:(p:Int)<((l.map xE).length:Int)
theorem RkH.c1 (h:RkH l p k a m t kk):(decide ((0:Int)<=p/\(p:Int)<((l.map xE).length:Int))&&(true&&true))=true:=by rw [decide_eq_true ⟨by omega,h.l2⟩]; rfl
theorem RkH.c2 (h:RkH l p k a m t kk):∀ B:Tb,B=Cx.B (cxV XB 12 fRgt)->(true&&(Nat.ble (0+(p:Int).toNat+1) (l.map xE).length&&zaak B shN 33 (rgV k a m t (kk.map fun j:Nat=>i0 (j:Int)))))=true:=by
 intro B hB; subst hB
 rw [zaAh [] [],Nat.ble_eq_true_of_le h.l1]; rfl
abbrev kkV (kk:List Nat):List AV:=kk.map fun j:Nat=>i0 (j:Int)
abbrev ksV (kr:Nat->Bool)(kk:List Nat):List (Bool × Int):=(List.range kk.length).map fun j=>(kr j,((kk.getD j 0:Nat):Int))
theorem lenE {ar:Int}(h:(ar != ((kkV kk).length:Int))=false):(kk.length:Int)=ar:=by
 rw [bne_eq_false_iff_eq,List.length_map] at h; exact h.symm
theorem rl0T {ar:Int}(h:(ar != ((kkV kk).length:Int))=false)(ha:0<ar:=by decide):(0:Int)<((kkV kk).length:Int):=by have:=lenE h; rw [List.length_map]; omega
theorem rl0F {ar:Int}(h:(ar != ((kkV kk).length:Int))=false)(ha:ar=0:=by decide):¬(0:Int)<((kkV kk).length:Int):=by have:=lenE h; rw [List.length_map]; omega
theorem rl1T {ar:Int}(h:(ar != ((kkV kk).length:Int))=false)(ha:1<ar:=by decide):(1:Int)<((kkV kk).length:Int):=by have:=lenE h; rw [List.length_map]; omega
theorem rl1F {ar:Int}(h:(ar != ((kkV kk).length:Int))=false)(ha:ar<=1:=by decide):¬(1:Int)<((kkV kk).length:Int):=by have:=lenE h; rw [List.length_map]; omega
theorem rl2F {ar:Int}(h:(ar != ((kkV kk).length:Int))=false)(ha:ar<=2:=by decide):¬(2:Int)<((kkV kk).length:Int):=by have:=lenE h; rw [List.length_map]; omega
theorem rkA0 {ar:Int}(h:(ar != ((kkV kk).length:Int))=false)(ha:0<ar:=by decide):0<kk.length:=by have:=lenE h; omega
theorem rkA1 {ar:Int}(h:(ar != ((kkV kk).length:Int))=false)(ha:1<ar:=by decide):1<kk.length:=by have:=lenE h; omega
theorem zaeU {kr:Nat->Bool}{j:Nat}(h:j<kk.length):(kr j,((kk.getD j 0:Nat):Int))∈ksV kr kk:=List.mem_map.2 ⟨j,List.mem_range.2 h,rfl⟩
theorem rkW {kr:Nat->Bool}{j:Nat}{x:AV}(h:j<kk.length):Wks [x,i0 (intA ((kkV kk).getD j (AV.lit (Value.tuple ⟨[]⟩))))] [x,i0 (kr j,((kk.getD j 0:Nat):Int)).2]:=by
 rw [List.getD_eq_getElem?_getD,List.getElem?_map,List.getElem?_eq_getElem h,List.getD_eq_getElem?_getD,List.getElem?_eq_getElem h]
 exact .refl _
theorem rkI {vs:List Nat}{j:Nat}(hj:j<vs.length):∀ B:Tb,B=Cx.B (cxV XB 12 fRgt)->(decide ((0:Int)<=(j:Int)/\(j:Int)<(((vs.map fun j:Nat=>i0 (j:Int)).length:Nat):Int))&&(true&&(zaak B shN 3 ((vs.map fun j:Nat=>i0 (j:Int)).getD j (AV.lit (Value.tuple ⟨[]⟩)))&&(false||true))))=true:=by
 intro B hB; subst hB
 rw [List.getD_eq_getElem?_getD,List.getElem?_map,List.getElem?_eq_getElem hj]
 show (decide _&&(true&&(zaak (Cx.B (cxV XB 12 fRgt)) shN 3 (i0 (vs[j]:Int))&&true)))=true
 rw [zaAi,decide_eq_true ⟨by omega,by rw [List.length_map]; omega⟩]; rfl
set_option maxRecDepth 100000 in
theorem zaui (ht:t.size<=1000000)(H:RkH l p 1 a m t kk)(kr:Nat->Bool):gRg1 zay7 (l.map xE) p (ksV kr kk) (bbR 0 ((kkV kk).length:Int) (zaar t) (m==0) true):=by
 rw [zauh]
 try dsimp only
 rw [H.e]
 exact ⟨H.c1,H.c2 _ rfl,rfl,t,⟨ht, .refl _,rfl⟩,fun h0=>⟨rfl,rfl,rfl,rfl,bF (bbL h0), .rfl⟩,fun h0=>⟨rfl,fun h1=>⟨rfl,rfl,bF (bbT h1), .rfl⟩,fun h1=>⟨rfl,fun h2=>⟨bF (bbN h2), .rfl⟩,fun h2=>⟨decide_eq_false (rl0F h0),bT (bbY h0 h1 h2 rfl), .rfl⟩⟩⟩⟩
set_option maxRecDepth 100000 in
theorem zaug  (H:RkH l p 2 a m t kk)(kr:Nat->Bool):gRg2 zay6 (l.map xE) p (ksV kr kk) (bbR 2 ((kkV kk).length:Int) (ByteArray.toList t==ByteArray.toList ByteArray.empty) (m==0) (kr 0&&kr 1)):=by
 rw [zauf]
 try dsimp only
 rw [H.e]
 exact ⟨H.c1,H.c2 _ rfl,rfl,rfl,rfl,fun h0=>⟨rfl,rfl,rfl,rfl,bF (bbL h0), .rfl⟩,fun h0=>⟨rfl,fun h1=>⟨rfl,rfl,bF (bbT h1), .rfl⟩,fun h1=>⟨rfl,fun h2=>⟨bF (bbN h2), .rfl⟩,fun h2=>⟨decide_eq_true (rl0T h0),rkI (rkA0 h0) _ rfl,(kr 0,((kk.getD 0 0:Nat):Int)),⟨zaeU (rkA0 h0),rkW (rkA0 h0),rfl⟩,fun h3=>⟨bF (bbK (k2F h3)), .rfl⟩,fun h3=>⟨rfl,decide_eq_true (rl1T h0),rkI (rkA1 h0) _ rfl,(kr 1,((kk.getD 1 0:Nat):Int)),⟨zaeU (rkA1 h0),rkW (rkA1 h0),rfl⟩,fun h4=>⟨bF (bbK (k2G h3 h4)), .rfl⟩,fun h4=>⟨rfl,decide_eq_false (rl2F h0),bT (bbY h0 h1 h2 (k2T h3 h4)), .rfl⟩⟩⟩⟩⟩⟩
set_option maxRecDepth 100000 in
theorem zaue  (H:RkH l p 3 a m t kk)(kr:Nat->Bool):gRg3 zay5 (l.map xE) p (ksV kr kk) (bbR 2 ((kkV kk).length:Int) (ByteArray.toList t==ByteArray.toList ByteArray.empty) (m==0) (kr 0&&kr 1)):=by
 rw [zaud]
 try dsimp only
 rw [H.e]
 exact ⟨H.c1,H.c2 _ rfl,rfl,rfl,rfl,rfl,fun h0=>⟨rfl,rfl,rfl,rfl,bF (bbL h0), .rfl⟩,fun h0=>⟨rfl,fun h1=>⟨rfl,rfl,bF (bbT h1), .rfl⟩,fun h1=>⟨rfl,fun h2=>⟨bF (bbN h2), .rfl⟩,fun h2=>⟨decide_eq_true (rl0T h0),rkI (rkA0 h0) _ rfl,(kr 0,((kk.getD 0 0:Nat):Int)),⟨zaeU (rkA0 h0),rkW (rkA0 h0),rfl⟩,fun h3=>⟨bF (bbK (k2F h3)), .rfl⟩,fun h3=>⟨rfl,decide_eq_true (rl1T h0),rkI (rkA1 h0) _ rfl,(kr 1,((kk.getD 1 0:Nat):Int)),⟨zaeU (rkA1 h0),rkW (rkA1 h0),rfl⟩,fun h4=>⟨bF (bbK (k2G h3 h4)), .rfl⟩,fun h4=>⟨rfl,decide_eq_false (rl2F h0),bT (bbY h0 h1 h2 (k2T h3 h4)), .rfl⟩⟩⟩⟩⟩⟩
set_option maxRecDepth 100000 in
theorem zauc  (H:RkH l p 4 a m t kk)(kr:Nat->Bool):gRg4 zay4 (l.map xE) p (ksV kr kk) (bbR 2 ((kkV kk).length:Int) (ByteArray.toList t==ByteArray.toList ByteArray.empty) (m==0) (kr 0&&kr 1)):=by
 rw [zaub]
 try dsimp only
 rw [H.e]
 exact ⟨H.c1,H.c2 _ rfl,rfl,rfl,rfl,rfl,rfl,fun h0=>⟨rfl,rfl,rfl,rfl,bF (bbL h0), .rfl⟩,fun h0=>⟨rfl,fun h1=>⟨rfl,rfl,bF (bbT h1), .rfl⟩,fun h1=>⟨rfl,fun h2=>⟨bF (bbN h2), .rfl⟩,fun h2=>⟨decide_eq_true (rl0T h0),rkI (rkA0 h0) _ rfl,(kr 0,((kk.getD 0 0:Nat):Int)),⟨zaeU (rkA0 h0),rkW (rkA0 h0),rfl⟩,fun h3=>⟨bF (bbK (k2F h3)), .rfl⟩,fun h3=>⟨rfl,decide_eq_true (rl1T h0),rkI (rkA1 h0) _ rfl,(kr 1,((kk.getD 1 0:Nat):Int)),⟨zaeU (rkA1 h0),rkW (rkA1 h0),rfl⟩,fun h4=>⟨bF (bbK (k2G h3 h4)), .rfl⟩,fun h4=>⟨rfl,decide_eq_false (rl2F h0),bT (bbY h0 h1 h2 (k2T h3 h4)), .rfl⟩⟩⟩⟩⟩⟩
set_option maxRecDepth 100000 in
theorem zat5  (H:RkH l p 8 a m t kk)(kr:Nat->Bool):gRg8 zay0 (l.map xE) p (ksV kr kk) (bbR 2 ((kkV kk).length:Int) (ByteArray.toList t==ByteArray.toList ByteArray.empty) (m==0) (kr 0&&kr 1)):=by
 rw [zat4]
 try dsimp only
 rw [H.e]
 exact ⟨H.c1,H.c2 _ rfl,rfl,rfl,rfl,rfl,rfl,rfl,fun h0=>⟨rfl,rfl,rfl,rfl,bF (bbL h0), .rfl⟩,fun h0=>⟨rfl,fun h1=>⟨rfl,rfl,bF (bbT h1), .rfl⟩,fun h1=>⟨rfl,fun h2=>⟨bF (bbN h2), .rfl⟩,fun h2=>⟨decide_eq_true (rl0T h0),rkI (rkA0 h0) _ rfl,(kr 0,((kk.getD 0 0:Nat):Int)),⟨zaeU (rkA0 h0),rkW (rkA0 h0),rfl⟩,fun h3=>⟨bF (bbK (k2F h3)), .rfl⟩,fun h3=>⟨rfl,decide_eq_true (rl1T h0),rkI (rkA1 h0) _ rfl,(kr 1,((kk.getD 1 0:Nat):Int)),⟨zaeU (rkA1 h0),rkW (rkA1 h0),rfl⟩,fun h4=>⟨bF (bbK (k2G h3 h4)), .rfl⟩,fun h4=>⟨rfl,decide_eq_false (rl2F h0),bT (bbY h0 h1 h2 (k2T h3 h4)), .rfl⟩⟩⟩⟩⟩⟩
set_option maxRecDepth 100000 in
theorem zat3  (H:RkH l p 9 a m t kk)(kr:Nat->Bool):gRg9 zayZ (l.map xE) p (ksV kr kk) (bbR 2 ((kkV kk).length:Int) (ByteArray.toList t==ByteArray.toList ByteArray.empty) (m==0) (kr 0&&kr 1)):=by
 rw [zat2]
 try dsimp only
 rw [H.e]
 exact ⟨H.c1,H.c2 _ rfl,rfl,rfl,rfl,rfl,rfl,rfl,fun h0=>⟨rfl,rfl,rfl,rfl,bF (bbL h0), .rfl⟩,fun h0=>⟨rfl,fun h1=>⟨rfl,rfl,bF (bbT h1), .rfl⟩,fun h1=>⟨rfl,fun h2=>⟨bF (bbN h2), .rfl⟩,fun h2=>⟨decide_eq_true (rl0T h0),rkI (rkA0 h0) _ rfl,(kr 0,((kk.getD 0 0:Nat):Int)),⟨zaeU (rkA0 h0),rkW (rkA0 h0),rfl⟩,fun h3=>⟨bF (bbK (k2F h3)), .rfl⟩,fun h3=>⟨rfl,decide_eq_true (rl1T h0),rkI (rkA1 h0) _ rfl,(kr 1,((kk.getD 1 0:Nat):Int)),⟨zaeU (rkA1 h0),rkW (rkA1 h0),rfl⟩,fun h4=>⟨bF (bbK (k2G h3 h4)), .rfl⟩,fun h4=>⟨rfl,decide_eq_false (rl2F h0),bT (bbY h0 h1 h2 (k2T h3 h4)), .rfl⟩⟩⟩⟩⟩⟩
set_option maxRecDepth 100000 in
theorem zaua  (H:RkH l p 5 a m t kk)(kr:Nat->Bool):gRg5 zay3 (l.map xE) p (ksV kr kk) (bbR 1 ((kkV kk).length:Int) (ByteArray.toList t==ByteArray.toList ByteArray.empty) (m==0) (kr 0)):=by
 rw [zau]
 try dsimp only
 rw [H.e]
 exact ⟨H.c1,H.c2 _ rfl,rfl,rfl,rfl,rfl,rfl,rfl,rfl,rfl,fun h0=>⟨rfl,rfl,rfl,rfl,bF (bbL h0), .rfl⟩,fun h0=>⟨rfl,fun h1=>⟨rfl,rfl,bF (bbT h1), .rfl⟩,fun h1=>⟨rfl,fun h2=>⟨bF (bbN h2), .rfl⟩,fun h2=>⟨decide_eq_true (rl0T h0),rkI (rkA0 h0) _ rfl,(kr 0,((kk.getD 0 0:Nat):Int)),⟨zaeU (rkA0 h0),rkW (rkA0 h0),rfl⟩,fun h3=>⟨bF (bbK (k1F h3)), .rfl⟩,fun h3=>⟨rfl,decide_eq_false (rl1F h0),bT (bbY h0 h1 h2 (k1T h3)), .rfl⟩⟩⟩⟩⟩
set_option maxRecDepth 100000 in
theorem zat9  (H:RkH l p 6 a m t kk)(kr:Nat->Bool):gRg6 zay2 (l.map xE) p (ksV kr kk) (bbR 1 ((kkV kk).length:Int) (ByteArray.toList t==ByteArray.toList ByteArray.empty) (m==0) (kr 0)):=by
 rw [zat8]
 try dsimp only
 rw [H.e]
 exact ⟨H.c1,H.c2 _ rfl,rfl,rfl,rfl,rfl,rfl,rfl,rfl,rfl,rfl,fun h0=>⟨rfl,rfl,rfl,rfl,bF (bbL h0), .rfl⟩,fun h0=>⟨rfl,fun h1=>⟨rfl,rfl,bF (bbT h1), .rfl⟩,fun h1=>⟨rfl,fun h2=>⟨bF (bbN h2), .rfl⟩,fun h2=>⟨decide_eq_true (rl0T h0),rkI (rkA0 h0) _ rfl,(kr 0,((kk.getD 0 0:Nat):Int)),⟨zaeU (rkA0 h0),rkW (rkA0 h0),rfl⟩,fun h3=>⟨bF (bbK (k1F h3)), .rfl⟩,fun h3=>⟨rfl,decide_eq_false (rl1F h0),bT (bbY h0 h1 h2 (k1T h3)), .rfl⟩⟩⟩⟩⟩
set_option maxRecDepth 100000 in
theorem zat7  (H:RkH l p 7 a m t kk)(kr:Nat->Bool):gRg7 zay1 (l.map xE) p (ksV kr kk) (bbR 1 ((kkV kk).length:Int) (ByteArray.toList t==ByteArray.toList ByteArray.empty) (m==0) (kr 0)):=by
 rw [zat6]
 try dsimp only
 rw [H.e]
 exact ⟨H.c1,H.c2 _ rfl,rfl,rfl,rfl,rfl,rfl,rfl,rfl,rfl,rfl,fun h0=>⟨rfl,rfl,rfl,rfl,bF (bbL h0), .rfl⟩,fun h0=>⟨rfl,fun h1=>⟨rfl,rfl,bF (bbT h1), .rfl⟩,fun h1=>⟨rfl,fun h2=>⟨bF (bbN h2), .rfl⟩,fun h2=>⟨decide_eq_true (rl0T h0),rkI (rkA0 h0) _ rfl,(kr 0,((kk.getD 0 0:Nat):Int)),⟨zaeU (rkA0 h0),rkW (rkA0 h0),rfl⟩,fun h3=>⟨bF (bbK (k1F h3)), .rfl⟩,fun h3=>⟨rfl,decide_eq_false (rl1F h0),bT (bbY h0 h1 h2 (k1T h3)), .rfl⟩⟩⟩⟩⟩
set_option maxRecDepth 100000 in
theorem zale  (H:RkH l p 10 a m wAll kk)(kr:Nat->Bool):zan2 zakO (l.map xE) p (ksV kr kk) (bbR 0 ((kkV kk).length:Int) true (m==0) true):=by
 rw [zald]
 try dsimp only
 rw [H.e]
 exact ⟨H.c1,H.c2 _ rfl,rfl,rfl,rfl,rfl,rfl,rfl,rfl,rfl,rfl,rfl,(zaae _ wAll).trans (decide_eq_true rfl),rfl,fun h0=>⟨rfl,rfl,rfl,rfl,bF (bbL h0), .rfl⟩,fun h0=>⟨rfl,rfl,rfl,fun h1=>⟨bF (bbN h1), .rfl⟩,fun h1=>⟨decide_eq_false (rl0F h0),bT (bbY h0 rfl h1 rfl), .rfl⟩⟩⟩
set_option maxRecDepth 100000 in
theorem zajy  (H:RkH l p 10 a m zabC kk)(kr:Nat->Bool):zak9 zaiF (l.map xE) p (ksV kr kk) (bbR 0 ((kkV kk).length:Int) true (m==0) true):=by
 rw [zajx]
 try dsimp only
 rw [H.e]
 exact ⟨H.c1,H.c2 _ rfl,rfl,rfl,rfl,rfl,rfl,rfl,rfl,rfl,rfl,rfl,(zaae _ wAll).trans (decide_eq_false (show ¬(zabC=wAll) by decide)),(zaae _ zabC).trans (decide_eq_true rfl),rfl,fun h0=>⟨rfl,rfl,rfl,rfl,bF (bbL h0), .rfl⟩,fun h0=>⟨rfl,rfl,rfl,fun h1=>⟨bF (bbN h1), .rfl⟩,fun h1=>⟨decide_eq_false (rl0F h0),bT (bbY h0 rfl h1 rfl), .rfl⟩⟩⟩
set_option maxRecDepth 100000 in
theorem zagY  (H:RkH l p 10 a m zaam kk)(kr:Nat->Bool):zagZ zafo (l.map xE) p (ksV kr kk) (bbR 0 ((kkV kk).length:Int) true (m==0) true):=by
 rw [zagX]
 try dsimp only
 rw [H.e]
 exact ⟨H.c1,H.c2 _ rfl,rfl,rfl,rfl,rfl,rfl,rfl,rfl,rfl,rfl,rfl,(zaae _ wAll).trans (decide_eq_false (show ¬(zaam=wAll) by decide)),(zaae _ zabC).trans (decide_eq_false (show ¬(zaam=zabC) by decide)),(zaae _ zaam).trans (decide_eq_true rfl),fun h0=>⟨rfl,rfl,rfl,rfl,bF (bbL h0), .rfl⟩,fun h0=>⟨rfl,rfl,rfl,fun h1=>⟨bF (bbN h1), .rfl⟩,fun h1=>⟨decide_eq_false (rl0F h0),bT (bbY h0 rfl h1 rfl), .rfl⟩⟩⟩
set_option maxRecDepth 100000 in
theorem zag  (H:RkH l p 10 a m zaai kk)(kr:Nat->Bool):zafv zaex (l.map xE) p (ksV kr kk) (bbR 1 ((kkV kk).length:Int) true (m==0) (kr 0)):=by
 rw [zaf9]
 try dsimp only
 rw [H.e]
 exact ⟨H.c1,H.c2 _ rfl,rfl,rfl,rfl,rfl,rfl,rfl,rfl,rfl,rfl,rfl,(zaae _ wAll).trans (decide_eq_false (show ¬(zaai=wAll) by decide)),(zaae _ zabC).trans (decide_eq_false (show ¬(zaai=zabC) by decide)),(zaae _ zaam).trans (decide_eq_false (show ¬(zaai=zaam) by decide)),(zaae _ zaai).trans (decide_eq_true rfl),rfl,fun h0=>⟨rfl,rfl,rfl,rfl,bF (bbL h0), .rfl⟩,fun h0=>⟨rfl,rfl,rfl,fun h1=>⟨bF (bbN h1), .rfl⟩,fun h1=>⟨decide_eq_true (rl0T h0),rkI (rkA0 h0) _ rfl,(kr 0,((kk.getD 0 0:Nat):Int)),⟨zaeU (rkA0 h0),rkW (rkA0 h0),rfl⟩,fun h2=>⟨bF (bbK (k1F h2)), .rfl⟩,fun h2=>⟨rfl,decide_eq_false (rl1F h0),bT (bbY h0 rfl h1 (k1T h2)), .rfl⟩⟩⟩⟩
set_option maxRecDepth 100000 in
theorem zaf  (H:RkH l p 10 a m zaaf kk)(kr:Nat->Bool):zaeJ zadP (l.map xE) p (ksV kr kk) (bbR 1 ((kkV kk).length:Int) true (m==0) (kr 0)):=by
 rw [zae9]
 try dsimp only
 rw [H.e]
 exact ⟨H.c1,H.c2 _ rfl,rfl,rfl,rfl,rfl,rfl,rfl,rfl,rfl,rfl,rfl,(zaae _ wAll).trans (decide_eq_false (show ¬(zaaf=wAll) by decide)),(zaae _ zabC).trans (decide_eq_false (show ¬(zaaf=zabC) by decide)),(zaae _ zaam).trans (decide_eq_false (show ¬(zaaf=zaam) by decide)),(zaae _ zaai).trans (decide_eq_false (show ¬(zaaf=zaai) by decide)),(zaae _ zaaf).trans (decide_eq_true rfl),rfl,fun h0=>⟨rfl,rfl,rfl,rfl,bF (bbL h0), .rfl⟩,fun h0=>⟨rfl,rfl,rfl,fun h1=>⟨bF (bbN h1), .rfl⟩,fun h1=>⟨decide_eq_true (rl0T h0),rkI (rkA0 h0) _ rfl,(kr 0,((kk.getD 0 0:Nat):Int)),⟨zaeU (rkA0 h0),rkW (rkA0 h0),rfl⟩,fun h2=>⟨bF (bbK (k1F h2)), .rfl⟩,fun h2=>⟨rfl,decide_eq_false (rl1F h0),bT (bbY h0 rfl h1 (k1T h2)), .rfl⟩⟩⟩⟩
set_option maxRecDepth 100000 in
theorem zalc  (H:RkH l p 10 a m wAnc kk)(kr:Nat->Bool):zan1 zakN (l.map xE) p (ksV kr kk) (bbR 1 ((kkV kk).length:Int) true (m==0) (kr 0)):=by
 rw [zalb]
 try dsimp only
 rw [H.e]
 exact ⟨H.c1,H.c2 _ rfl,rfl,rfl,rfl,rfl,rfl,rfl,rfl,rfl,rfl,rfl,(zaae _ wAll).trans (decide_eq_false (show ¬(wAnc=wAll) by decide)),(zaae _ zabC).trans (decide_eq_false (show ¬(wAnc=zabC) by decide)),(zaae _ zaam).trans (decide_eq_false (show ¬(wAnc=zaam) by decide)),(zaae _ zaai).trans (decide_eq_false (show ¬(wAnc=zaai) by decide)),(zaae _ zaaf).trans (decide_eq_false (show ¬(wAnc=zaaf) by decide)),(zaae _ wAnc).trans (decide_eq_true rfl),rfl,fun h0=>⟨rfl,rfl,rfl,rfl,bF (bbL h0), .rfl⟩,fun h0=>⟨rfl,rfl,rfl,fun h1=>⟨bF (bbN h1), .rfl⟩,fun h1=>⟨decide_eq_true (rl0T h0),rkI (rkA0 h0) _ rfl,(kr 0,((kk.getD 0 0:Nat):Int)),⟨zaeU (rkA0 h0),rkW (rkA0 h0),rfl⟩,fun h2=>⟨bF (bbK (k1F h2)), .rfl⟩,fun h2=>⟨rfl,decide_eq_false (rl1F h0),bT (bbY h0 rfl h1 (k1T h2)), .rfl⟩⟩⟩⟩
set_option maxRecDepth 100000 in
theorem zajC  (H:RkH l p 10 a m zabZ kk)(kr:Nat->Bool):zala zaiH (l.map xE) p (ksV kr kk) (bbR 1 ((kkV kk).length:Int) true (m==0) (kr 0)):=by
 rw [zajB]
 try dsimp only
 rw [H.e]
 exact ⟨H.c1,H.c2 _ rfl,rfl,rfl,rfl,rfl,rfl,rfl,rfl,rfl,rfl,rfl,(zaae _ wAll).trans (decide_eq_false (show ¬(zabZ=wAll) by decide)),(zaae _ zabC).trans (decide_eq_false (show ¬(zabZ=zabC) by decide)),(zaae _ zaam).trans (decide_eq_false (show ¬(zabZ=zaam) by decide)),(zaae _ zaai).trans (decide_eq_false (show ¬(zabZ=zaai) by decide)),(zaae _ zaaf).trans (decide_eq_false (show ¬(zabZ=zaaf) by decide)),(zaae _ wAnc).trans (decide_eq_false (show ¬(zabZ=wAnc) by decide)),(zaae _ zabZ).trans (decide_eq_true rfl),rfl,fun h0=>⟨rfl,rfl,rfl,rfl,bF (bbL h0), .rfl⟩,fun h0=>⟨rfl,rfl,rfl,fun h1=>⟨bF (bbN h1), .rfl⟩,fun h1=>⟨decide_eq_true (rl0T h0),rkI (rkA0 h0) _ rfl,(kr 0,((kk.getD 0 0:Nat):Int)),⟨zaeU (rkA0 h0),rkW (rkA0 h0),rfl⟩,fun h2=>⟨bF (bbK (k1F h2)), .rfl⟩,fun h2=>⟨rfl,decide_eq_false (rl1F h0),bT (bbY h0 rfl h1 (k1T h2)), .rfl⟩⟩⟩⟩
set_option maxRecDepth 100000 in
theorem zahU  (H:RkH l p 10 a m zaaX kk)(kr:Nat->Bool):zaiV zagL (l.map xE) p (ksV kr kk) (bbR 1 ((kkV kk).length:Int) true (m==0) (kr 0)):=by
 rw [zahT]
 try dsimp only
 rw [H.e]
 exact ⟨H.c1,H.c2 _ rfl,rfl,rfl,rfl,rfl,rfl,rfl,rfl,rfl,rfl,rfl,(zaae _ wAll).trans (decide_eq_false (show ¬(zaaX=wAll) by decide)),(zaae _ zabC).trans (decide_eq_false (show ¬(zaaX=zabC) by decide)),(zaae _ zaam).trans (decide_eq_false (show ¬(zaaX=zaam) by decide)),(zaae _ zaai).trans (decide_eq_false (show ¬(zaaX=zaai) by decide)),(zaae _ zaaf).trans (decide_eq_false (show ¬(zaaX=zaaf) by decide)),(zaae _ wAnc).trans (decide_eq_false (show ¬(zaaX=wAnc) by decide)),(zaae _ zabZ).trans (decide_eq_false (show ¬(zaaX=zabZ) by decide)),(zaae _ zaaX).trans (decide_eq_true rfl),rfl,fun h0=>⟨rfl,rfl,rfl,rfl,bF (bbL h0), .rfl⟩,fun h0=>⟨rfl,rfl,rfl,fun h1=>⟨bF (bbN h1), .rfl⟩,fun h1=>⟨decide_eq_true (rl0T h0),rkI (rkA0 h0) _ rfl,(kr 0,((kk.getD 0 0:Nat):Int)),⟨zaeU (rkA0 h0),rkW (rkA0 h0),rfl⟩,fun h2=>⟨bF (bbK (k1F h2)), .rfl⟩,fun h2=>⟨rfl,decide_eq_false (rl1F h0),bT (bbY h0 rfl h1 (k1T h2)), .rfl⟩⟩⟩⟩
set_option maxRecDepth 100000 in
theorem zahQ  (H:RkH l p 10 a m zaa3 kk)(kr:Nat->Bool):zaiT zagJ (l.map xE) p (ksV kr kk) (bbR 1 ((kkV kk).length:Int) true (m==0) (kr 0)):=by
 rw [zahP]
 try dsimp only
 rw [H.e]
 exact ⟨H.c1,H.c2 _ rfl,rfl,rfl,rfl,rfl,rfl,rfl,rfl,rfl,rfl,rfl,(zaae _ wAll).trans (decide_eq_false (show ¬(zaa3=wAll) by decide)),(zaae _ zabC).trans (decide_eq_false (show ¬(zaa3=zabC) by decide)),(zaae _ zaam).trans (decide_eq_false (show ¬(zaa3=zaam) by decide)),(zaae _ zaai).trans (decide_eq_false (show ¬(zaa3=zaai) by decide)),(zaae _ zaaf).trans (decide_eq_false (show ¬(zaa3=zaaf) by decide)),(zaae _ wAnc).trans (decide_eq_false (show ¬(zaa3=wAnc) by decide)),(zaae _ zabZ).trans (decide_eq_false (show ¬(zaa3=zabZ) by decide)),(zaae _ zaaX).trans (decide_eq_false (show ¬(zaa3=zaaX) by decide)),(zaae _ zaa3).trans (decide_eq_true rfl),fun h0=>⟨rfl,rfl,rfl,rfl,bF (bbL h0), .rfl⟩,fun h0=>⟨rfl,rfl,rfl,fun h1=>⟨bF (bbN h1), .rfl⟩,fun h1=>⟨decide_eq_true (rl0T h0),rkI (rkA0 h0) _ rfl,(kr 0,((kk.getD 0 0:Nat):Int)),⟨zaeU (rkA0 h0),rkW (rkA0 h0),rfl⟩,fun h2=>⟨bF (bbK (k1F h2)), .rfl⟩,fun h2=>⟨rfl,decide_eq_false (rl1F h0),bT (bbY h0 rfl h1 (k1T h2)), .rfl⟩⟩⟩⟩
set_option maxRecDepth 100000 in
theorem zahW  (H:RkH l p 10 a m zaaY kk)(kr:Nat->Bool):zaiW zagM (l.map xE) p (ksV kr kk) (bbR 1 ((kkV kk).length:Int) true (decide (m>=0)&&decide (m<=999999)) (kr 0)):=by
 rw [zahV]
 try dsimp only
 rw [H.e]
 exact ⟨H.c1,H.c2 _ rfl,rfl,rfl,rfl,rfl,rfl,rfl,rfl,rfl,rfl,rfl,(zaae _ wAll).trans (decide_eq_false (show ¬(zaaY=wAll) by decide)),(zaae _ zabC).trans (decide_eq_false (show ¬(zaaY=zabC) by decide)),(zaae _ zaam).trans (decide_eq_false (show ¬(zaaY=zaam) by decide)),(zaae _ zaai).trans (decide_eq_false (show ¬(zaaY=zaai) by decide)),(zaae _ zaaf).trans (decide_eq_false (show ¬(zaaY=zaaf) by decide)),(zaae _ wAnc).trans (decide_eq_false (show ¬(zaaY=wAnc) by decide)),(zaae _ zabZ).trans (decide_eq_false (show ¬(zaaY=zabZ) by decide)),(zaae _ zaaX).trans (decide_eq_false (show ¬(zaaY=zaaX) by decide)),(zaae _ zaa3).trans (decide_eq_false (show ¬(zaaY=zaa3) by decide)),(zaae _ zaaY).trans (decide_eq_true rfl),rfl,fun h0=>⟨rfl,rfl,fun h1=>⟨rfl,rfl,rfl,rfl,bF (bbL h1), .rfl⟩,fun h1=>⟨rfl,rfl,rfl,fun h2=>⟨bF (bbN (nG h0 h2)), .rfl⟩,fun h2=>⟨decide_eq_true (rl0T h1),rkI (rkA0 h1) _ rfl,(kr 0,((kk.getD 0 0:Nat):Int)),⟨zaeU (rkA0 h1),rkW (rkA0 h1),rfl⟩,fun h3=>⟨bF (bbK (k1F h3)), .rfl⟩,fun h3=>⟨rfl,decide_eq_false (rl1F h1),bT (bbY h1 rfl (nM h0 h2) (k1T h3)), .rfl⟩⟩⟩⟩,fun h0=>⟨rfl,rfl,fun h1=>⟨rfl,rfl,rfl,rfl,bF (bbL h1), .rfl⟩,fun h1=>⟨rfl,rfl,rfl,rfl,bF (bbN (nF h0)), .rfl⟩⟩⟩
set_option maxRecDepth 100000 in
theorem zajA  (H:RkH l p 10 a m zacx kk)(kr:Nat->Bool):zal zaiG (l.map xE) p (ksV kr kk) (bbR 1 ((kkV kk).length:Int) true (decide (m>=0)&&decide (m<=999999)) (kr 0)):=by
 rw [zajz]
 try dsimp only
 rw [H.e]
 exact ⟨H.c1,H.c2 _ rfl,rfl,rfl,rfl,rfl,rfl,rfl,rfl,rfl,rfl,rfl,(zaae _ wAll).trans (decide_eq_false (show ¬(zacx=wAll) by decide)),(zaae _ zabC).trans (decide_eq_false (show ¬(zacx=zabC) by decide)),(zaae _ zaam).trans (decide_eq_false (show ¬(zacx=zaam) by decide)),(zaae _ zaai).trans (decide_eq_false (show ¬(zacx=zaai) by decide)),(zaae _ zaaf).trans (decide_eq_false (show ¬(zacx=zaaf) by decide)),(zaae _ wAnc).trans (decide_eq_false (show ¬(zacx=wAnc) by decide)),(zaae _ zabZ).trans (decide_eq_false (show ¬(zacx=zabZ) by decide)),(zaae _ zaaX).trans (decide_eq_false (show ¬(zacx=zaaX) by decide)),(zaae _ zaa3).trans (decide_eq_false (show ¬(zacx=zaa3) by decide)),(zaae _ zaaY).trans (decide_eq_false (show ¬(zacx=zaaY) by decide)),(zaae _ zacx).trans (decide_eq_true rfl),rfl,fun h0=>⟨rfl,rfl,fun h1=>⟨rfl,rfl,rfl,rfl,bF (bbL h1), .rfl⟩,fun h1=>⟨rfl,rfl,rfl,fun h2=>⟨bF (bbN (nG h0 h2)), .rfl⟩,fun h2=>⟨decide_eq_true (rl0T h1),rkI (rkA0 h1) _ rfl,(kr 0,((kk.getD 0 0:Nat):Int)),⟨zaeU (rkA0 h1),rkW (rkA0 h1),rfl⟩,fun h3=>⟨bF (bbK (k1F h3)), .rfl⟩,fun h3=>⟨rfl,decide_eq_false (rl1F h1),bT (bbY h1 rfl (nM h0 h2) (k1T h3)), .rfl⟩⟩⟩⟩,fun h0=>⟨rfl,rfl,fun h1=>⟨rfl,rfl,rfl,rfl,bF (bbL h1), .rfl⟩,fun h1=>⟨rfl,rfl,rfl,rfl,bF (bbN (nF h0)), .rfl⟩⟩⟩
set_option maxRecDepth 100000 in
theorem zahS  (H:RkH l p 10 a m zaa8 kk)(kr:Nat->Bool):zaiU zagK (l.map xE) p (ksV kr kk) (bbR 1 ((kkV kk).length:Int) true (decide (m>=0)&&decide (m<=999999)) (kr 0)):=by
 rw [zahR]
 try dsimp only
 rw [H.e]
 exact ⟨H.c1,H.c2 _ rfl,rfl,rfl,rfl,rfl,rfl,rfl,rfl,rfl,rfl,rfl,(zaae _ wAll).trans (decide_eq_false (show ¬(zaa8=wAll) by decide)),(zaae _ zabC).trans (decide_eq_false (show ¬(zaa8=zabC) by decide)),(zaae _ zaam).trans (decide_eq_false (show ¬(zaa8=zaam) by decide)),(zaae _ zaai).trans (decide_eq_false (show ¬(zaa8=zaai) by decide)),(zaae _ zaaf).trans (decide_eq_false (show ¬(zaa8=zaaf) by decide)),(zaae _ wAnc).trans (decide_eq_false (show ¬(zaa8=wAnc) by decide)),(zaae _ zabZ).trans (decide_eq_false (show ¬(zaa8=zabZ) by decide)),(zaae _ zaaX).trans (decide_eq_false (show ¬(zaa8=zaaX) by decide)),(zaae _ zaa3).trans (decide_eq_false (show ¬(zaa8=zaa3) by decide)),(zaae _ zaaY).trans (decide_eq_false (show ¬(zaa8=zaaY) by decide)),(zaae _ zacx).trans (decide_eq_false (show ¬(zaa8=zacx) by decide)),(zaae _ zaa8).trans (decide_eq_true rfl),fun h0=>⟨rfl,rfl,fun h1=>⟨rfl,rfl,rfl,rfl,bF (bbL h1), .rfl⟩,fun h1=>⟨rfl,rfl,rfl,fun h2=>⟨bF (bbN (nG h0 h2)), .rfl⟩,fun h2=>⟨decide_eq_true (rl0T h1),rkI (rkA0 h1) _ rfl,(kr 0,((kk.getD 0 0:Nat):Int)),⟨zaeU (rkA0 h1),rkW (rkA0 h1),rfl⟩,fun h3=>⟨bF (bbK (k1F h3)), .rfl⟩,fun h3=>⟨rfl,decide_eq_false (rl1F h1),bT (bbY h1 rfl (nM h0 h2) (k1T h3)), .rfl⟩⟩⟩⟩,fun h0=>⟨rfl,rfl,fun h1=>⟨rfl,rfl,rfl,rfl,bF (bbL h1), .rfl⟩,fun h1=>⟨rfl,rfl,rfl,rfl,bF (bbN (nF h0)), .rfl⟩⟩⟩
set_option maxRecDepth 100000 in
theorem zatZ (hw:∀ w∈[wAll,zabC,zaam,zaai,zaaf,wAnc,zabZ,zaaX,zaa3,zaaY,zacx,zaa8],t≠w)(H:RkH l p 10 a m t kk)(kr:Nat->Bool):gRgU zayX (l.map xE) p (ksV kr kk) false:=by
 rw [zatY]
 try dsimp only
 rw [H.e]
 exact ⟨H.c1,H.c2 _ rfl,rfl,rfl,rfl,rfl,rfl,rfl,rfl,rfl,rfl,rfl,(zaae _ wAll).trans (decide_eq_false (hw wAll (by simp))),(zaae _ zabC).trans (decide_eq_false (hw zabC (by simp))),(zaae _ zaam).trans (decide_eq_false (hw zaam (by simp))),(zaae _ zaai).trans (decide_eq_false (hw zaai (by simp))),(zaae _ zaaf).trans (decide_eq_false (hw zaaf (by simp))),(zaae _ wAnc).trans (decide_eq_false (hw wAnc (by simp))),(zaae _ zabZ).trans (decide_eq_false (hw zabZ (by simp))),(zaae _ zaaX).trans (decide_eq_false (hw zaaX (by simp))),(zaae _ zaa3).trans (decide_eq_false (hw zaa3 (by simp))),(zaae _ zaaY).trans (decide_eq_false (hw zaaY (by simp))),(zaae _ zacx).trans (decide_eq_false (hw zacx (by simp))),(zaae _ zaa8).trans (decide_eq_false (hw zaa8 (by simp))),bne_iff_ne.2 (by omega),rfl,rfl,rfl,rfl, .refl _, .rfl⟩
set_option maxRecDepth 100000 in
theorem zat1 (hk:∀ c:Int,(0<c/\c<=10)->k≠c)(H:RkH l p k a m t kk)(kr:Nat->Bool):gRgO zayY (l.map xE) p (ksV kr kk) false:=by
 rw [zat0]
 try dsimp only
 rw [H.e]
 exact ⟨H.c1,H.c2 _ rfl,beq_eq_false_iff_ne.2 (hk 1 (by decide)),beq_eq_false_iff_ne.2 (hk 2 (by decide)),beq_eq_false_iff_ne.2 (hk 3 (by decide)),beq_eq_false_iff_ne.2 (hk 4 (by decide)),beq_eq_false_iff_ne.2 (hk 8 (by decide)),beq_eq_false_iff_ne.2 (hk 9 (by decide)),beq_eq_false_iff_ne.2 (hk 5 (by decide)),beq_eq_false_iff_ne.2 (hk 6 (by decide)),beq_eq_false_iff_ne.2 (hk 7 (by decide)),beq_eq_false_iff_ne.2 (hk 10 (by decide)),bne_iff_ne.2 (by omega),rfl,rfl,rfl,rfl, .refl _, .rfl⟩
end
end
end Go.Proofs.YtpofhijgccocpaaGreatDoor
end
section
namespace Go.Proofs.YtpofhijgccocpaaGreatDoor
open Go.AS Go.TP
noncomputable section
theorem rsB {k a m:Int}{t:ByteArray}{ks:List Nd}{ar:Int}{tb nb:Bool}(hk:zabQ k t=ar)(h0:0<=ar)(hn:zabv k m t=(tb&&nb)):zaav (.mk k a m t ks)=bbR ar (ks.length:Int) tb nb (zack ks):=by
 rw [zaav,zad,hk,hn,decide_eq_true h0]; unfold bbR
 cases decide (ar=(ks.length:Int)) <;> cases tb <;> cases nb <;> cases zack ks <;> rfl
theorem rs1 (a m:Int)(t:ByteArray)(ks:List Nd):zaav (.mk 1 a m t ks)=bbR 0 (ks.length:Int) (zaar t) (m==0) (zack ks):=rsB rfl (by decide) rfl
theorem zavD (t:ByteArray):(ByteArray.toList t==ByteArray.toList ByteArray.empty)=decide (t=ByteArray.empty):=zaae t ByteArray.empty
theorem rs2 {k:Int}(hk:k=2∨k=3∨k=4∨k=8∨k=9)(a m:Int)(t:ByteArray)(ks:List Nd):zaav (.mk k a m t ks)=bbR 2 (ks.length:Int) (ByteArray.toList t==ByteArray.toList ByteArray.empty) (m==0) (zack ks):=by
 rw [zavD]
 rcases hk with rfl | rfl | rfl | rfl | rfl <;> exact rsB rfl (by decide) rfl
theorem rs5 {k:Int}(hk:k=5∨k=6∨k=7)(a m:Int)(t:ByteArray)(ks:List Nd):zaav (.mk k a m t ks)=bbR 1 (ks.length:Int) (ByteArray.toList t==ByteArray.toList ByteArray.empty) (m==0) (zack ks):=by
 rw [zavD]
 rcases hk with rfl | rfl | rfl <;> exact rsB rfl (by decide) rfl
theorem rsC0 {t:ByteArray}{f ar:Int}(ht:zaaH t=f)(hf:f=1/\ar=0∨f=2/\ar=1)(a m:Int)(ks:List Nd):zaav (.mk 10 a m t ks)=bbR ar (ks.length:Int) true (m==0) (zack ks):=by
 refine rsB ?_ (by omega) ?_
 · show (if zaaH t-1<1 then zaaH t-1 else 1)=ar
   rw [ht]; rcases hf with ⟨rfl,rfl⟩ | ⟨rfl,rfl⟩ <;> rfl
 · show (decide (m=0)||(decide (zaaH t=3)&&_))=_
   rw [ht,decide_eq_false (show ¬f=3 by omega),Bool.false_and,Bool.or_false,Bool.true_and]; rfl
theorem rsC3 {t:ByteArray}(ht:zaaH t=3)(a m:Int)(ks:List Nd):zaav (.mk 10 a m t ks)=bbR 1 (ks.length:Int) true (decide (m>=0)&&decide (m<=999999)) (zack ks):=by
 refine rsB ?_ (by decide) ?_
 · show (if zaaH t-1<1 then zaaH t-1 else 1)=1
   rw [ht]; rfl
 · show (decide (m=0)||(decide (zaaH t=3)&&(decide (0<m)&&decide (m<=999999))))=_
   rw [ht,decide_eq_true (show (3:Int)=3 from rfl),Bool.true_and,Bool.true_and]
   rw [Bool.eq_iff_iff]; simp only [Bool.or_eq_true,Bool.and_eq_true,decide_eq_true_eq]; omega
theorem rsC9 {t:ByteArray}(ht:zaaH t=0)(a m:Int)(ks:List Nd):zaav (.mk 10 a m t ks)=false:=by
 rw [zaav,zad,show zabQ 10 t = -1 by show (if zaaH t-1<1 then zaaH t-1 else 1) = -1; rw [ht]; rfl]; rfl
theorem rsO {k:Int}(hk:∀ c:Int,(0<c/\c<=10)->k≠c)(a m:Int)(t:ByteArray)(ks:List Nd):zaav (.mk k a m t ks)=false:=by
 rw [zaav,zad,show zabQ k t = -1 by
  unfold zabQ
  rw [if_neg (by rintro (h | h | h | h | h) <;> exact hk _ (by decide) h),if_neg (by rintro (h | h | h) <;> exact hk _ (by decide) h),if_neg (hk 1 (by decide)),if_neg (hk 10 (by decide))]]; rfl
def krS (ks:List Nd)(j:Nat):Bool:=zaav (ks.getD j .zero)
theorem rl0 {ks:List Nd}{ar:Int}{tb nb:Bool}{b:Bool}(h:ar=(ks.length:Int)->zack ks=b):bbR ar (ks.length:Int) tb nb (zack ks)=bbR ar (ks.length:Int) tb nb b:=by
 unfold bbR
 by_cases e:ar=(ks.length:Int)
 · rw [h e]
 · rw [decide_eq_false e]; rfl
theorem rlN {ks:List Nd}(h:(0:Int)=(ks.length:Int)):zack ks=true:=by
 obtain rfl:ks=[]:=List.eq_nil_of_length_eq_zero (by omega)
 rfl
theorem rlO {ks:List Nd}(h:(1:Int)=(ks.length:Int)):zack ks=krS ks 0:=by
 match ks,h with
 | [x],_=>exact Bool.and_true _
theorem rlT {ks:List Nd}(h:(2:Int)=(ks.length:Int)):zack ks=(krS ks 0&&krS ks 1):=by
 match ks,h with
 | [x,y],_=>show (zaav x&&(zaav y&&true))=_; rw [Bool.and_true]; rfl
abbrev RkOk (l:List RN)(p:Nat)(b:Bool):Prop:=FOk Tryz.prog gl0 fRgt [tS (l.map xE).length,i0 (p:Int)] (rowH (l.map xE)) ⟨b0 b,rowH (l.map xE),[]⟩
attribute [local irreducible] runF in
set_option maxRecDepth 100000 in
theorem zaAo {l:List RN}(n:Nd):zacX n->∀ p,Rep l p n->RkOk l p (zaav n):=by
 refine Nd.rec (motive_1:=fun n=>zacX n->∀ p,Rep l p n->RkOk l p (zaav n))
  (motive_2:=fun ks=>zal1 ks->∀ x∈ks,∀ p,Rep l p x->RkOk l p (zaav x)) ?_ (fun _ x hx=>by cases hx) (fun x r h1 h2 hn y hy => ?_) n
 · intro k a m t ks ih hn p hR
   have hn:t.size<=600/\zal1 ks:=hn
   obtain ⟨e1,e2,e3⟩:=zaeA hR
   obtain ⟨_,_,_,_,_,hkl,_,hk⟩:=hR.inv
   have hsz:t.size<=1000000:=by omega
   have hlen:(ndR l p).kids.length=ks.length:=hkl
   have H:RkH l p k a m t (ndR l p).kids:=⟨e1,e2,e3⟩
   have hh:∀ q∈ksV (krS ks) (ndR l p).kids,FOk Tryz.prog gl0 fRgt [tS (l.map xE).length,i0 q.2] (rowH (l.map xE)) ⟨b0 q.1,rowH (l.map xE),[]⟩:=by
     intro q hq
     obtain ⟨j,hj,rfl⟩:=List.mem_map.1 hq
     have hj:=List.mem_range.1 hj
     have hj':j<ks.length:=by omega
     have e:(ndR l p).kids[j]?=some ((ndR l p).kids.getD j 0):=by rw [List.getD_eq_getElem?_getD,List.getElem?_eq_getElem hj]; rfl
     have e':ks[j]?=some (ks.getD j .zero):=by rw [List.getD_eq_getElem?_getD,List.getElem?_eq_getElem hj']; rfl
     exact ih hn.2 _ (List.mem_of_getElem? e') _ (hk j _ _ e e')
   have hc:((kkV (ndR l p).kids).length:Int)=(ks.length:Int):=by rw [List.length_map,hlen]
   have go:∀ {os:Orc} {b:Bool},gRk os (l.map xE) p (ksV (krS ks) (ndR l p).kids) b->zaav (.mk k a m t ks)=b->RkOk l p (zaav (.mk k a m t ks)):=fun g e=>by rw [e]; exact rkFn hh g
   by_cases k1:k=1
   · subst k1
     exact go (zaui hsz H (krS ks)) (by rw [hc,rs1]; exact rl0 rlN)
   by_cases k2:k=2
   · subst k2
     exact go (zaug H (krS ks)) (by rw [hc,rs2 (by decide)]; exact rl0 rlT)
   by_cases k3:k=3
   · subst k3
     exact go (zaue H (krS ks)) (by rw [hc,rs2 (by decide)]; exact rl0 rlT)
   by_cases k4:k=4
   · subst k4
     exact go (zauc H (krS ks)) (by rw [hc,rs2 (by decide)]; exact rl0 rlT)
   by_cases k8:k=8
   · subst k8
     exact go (zat5 H (krS ks)) (by rw [hc,rs2 (by decide)]; exact rl0 rlT)
   by_cases k9:k=9
   · subst k9
     exact go (zat3 H (krS ks)) (by rw [hc,rs2 (by decide)]; exact rl0 rlT)
   by_cases k5:k=5
   · subst k5
     exact go (zaua H (krS ks)) (by rw [hc,rs5 (by decide)]; exact rl0 rlO)
   by_cases k6:k=6
   · subst k6
     exact go (zat9 H (krS ks)) (by rw [hc,rs5 (by decide)]; exact rl0 rlO)
   by_cases k7:k=7
   · subst k7
     exact go (zat7 H (krS ks)) (by rw [hc,rs5 (by decide)]; exact rl0 rlO)
   by_cases kc:k=10
   · subst kc
     by_cases cwAll:t=wAll
     · subst cwAll
       exact go (zale H (krS ks)) (by rw [hc,rsC0 (t:=wAll) (f:=1) (ar:=0) (by decide) (by decide)]; exact rl0 rlN)
     by_cases cwNone:t=zabC
     · subst cwNone
       exact go (zajy H (krS ks)) (by rw [hc,rsC0 (t:=zabC) (f:=1) (ar:=0) (by decide) (by decide)]; exact rl0 rlN)
     by_cases cwMaster:t=zaam
     · subst cwMaster
       exact go (zagY H (krS ks)) (by rw [hc,rsC0 (t:=zaam) (f:=1) (ar:=0) (by decide) (by decide)]; exact rl0 rlN)
     by_cases cwParents:t=zaai
     · subst cwParents
       exact go (zag H (krS ks)) (by rw [hc,rsC0 (t:=zaai) (f:=2) (ar:=1) (by decide) (by decide)]; exact rl0 rlO)
     by_cases cwChildren:t=zaaf
     · subst cwChildren
       exact go (zaf H (krS ks)) (by rw [hc,rsC0 (t:=zaaf) (f:=2) (ar:=1) (by decide) (by decide)]; exact rl0 rlO)
     by_cases cwAnc:t=wAnc
     · subst cwAnc
       exact go (zalc H (krS ks)) (by rw [hc,rsC0 (t:=wAnc) (f:=2) (ar:=1) (by decide) (by decide)]; exact rl0 rlO)
     by_cases cwDesc:t=zabZ
     · subst cwDesc
       exact go (zajC H (krS ks)) (by rw [hc,rsC0 (t:=zabZ) (f:=2) (ar:=1) (by decide) (by decide)]; exact rl0 rlO)
     by_cases cwHeads:t=zaaX
     · subst cwHeads
       exact go (zahU H (krS ks)) (by rw [hc,rsC0 (t:=zaaX) (f:=2) (ar:=1) (by decide) (by decide)]; exact rl0 rlO)
     by_cases cwRoots:t=zaa3
     · subst cwRoots
       exact go (zahQ H (krS ks)) (by rw [hc,rsC0 (t:=zaa3) (f:=2) (ar:=1) (by decide) (by decide)]; exact rl0 rlO)
     by_cases cwFirst:t=zaaY
     · subst cwFirst
       exact go (zahW H (krS ks)) (by rw [hc,rsC3 (t:=zaaY) (by decide)]; exact rl0 rlO)
     by_cases cwLast:t=zacx
     · subst cwLast
       exact go (zajA H (krS ks)) (by rw [hc,rsC3 (t:=zacx) (by decide)]; exact rl0 rlO)
     by_cases cwLimit:t=zaa8
     · subst cwLimit
       exact go (zahS H (krS ks)) (by rw [hc,rsC3 (t:=zaa8) (by decide)]; exact rl0 rlO)
     have hf:zaaH t=0:=by
       rw [zalg,if_neg (by rintro (h | h | h) <;> contradiction),if_neg (by rintro (h | h | h | h | h | h) <;> contradiction),if_neg (by rintro (h | h | h) <;> contradiction)]
     refine go (zatZ (fun w hw => ?_) H (krS ks)) (rsC9 hf ..)
     simp only [List.mem_cons,List.not_mem_nil,or_false] at hw
     rcases hw with rfl | rfl | rfl | rfl | rfl | rfl | rfl | rfl | rfl | rfl | rfl | rfl <;> assumption
   · have hk:∀ c:Int,(0<c/\c<=10)->k≠c:=fun c hc=>by rintro rfl; omega
     exact go (zat1 hk H (krS ks)) (rsO hk ..)
 · rcases List.mem_cons.1 hy with rfl | hy
   · exact h1 hn.1
   · exact h2 hn.2 y hy
end
end Go.Proofs.YtpofhijgccocpaaGreatDoor
end
section
namespace Go.TP
open Go.AS
theorem zafU {P:Nd->Prop} (hn:∀ a t,zaar t=true->P (.mk 1 a 0 t []))
  (h2:∀ k a x y,(k=2∨k=3∨k=4∨k=8∨k=9)->zaav x=true->zaav y=true->P x->P y->P (.mk k a 0 ByteArray.empty [x,y]))
  (h1:∀ k a x,(k=5∨k=6∨k=7)->zaav x=true->P x->P (.mk k a 0 ByteArray.empty [x]))
  (c0:∀ a t,zaaH t=1->P (.mk 10 a 0 t []))
  (c1:∀ a n t x,(zaaH t=2/\n=0)∨(zaaH t=3/\0<=n/\n<=999999)->zaav x=true->P x->P (.mk 10 a n t [x])):∀ n,zaav n=true->P n:=by
 intro n
 refine Nd.rec (motive_1:=fun n=>zaav n=true->P n) (motive_2:=fun l=>∀ x∈l,zaav x=true->P x) ?_ ?_ ?_ n
 · intro k a n t ks ih h
   obtain ⟨e1,e2,e3⟩:=zamQ h
   by_cases k2:k=2∨k=3∨k=4∨k=8∨k=9
   · have e:zabQ k t=2:=if_pos k2
     have hl:ks.length=2:=by omega
     obtain ⟨x,y,rfl⟩:=zaow hl
     have e5:zabv k n t=(decide (t=ByteArray.empty)&&decide (n=0)):=by
       unfold zabv; rw [if_neg (by omega),if_neg (by omega)]
     rw [e5,Bool.and_eq_true,decide_eq_true_eq,decide_eq_true_eq] at e2
     obtain ⟨rfl,rfl⟩:=e2
     exact h2 k a x y k2 (e3 x (by simp)) (e3 y (by simp)) (ih x (by simp) (e3 x (by simp))) (ih y (by simp) (e3 y (by simp)))
   · have e:zabQ k t=if k=5∨k=6∨k=7 then 1 else if k=1 then 0 else if k=10 then (if zaaH t-1<1 then zaaH t-1 else 1) else -1:=if_neg k2
     by_cases k1:k=5∨k=6∨k=7
     · rw [if_pos k1] at e
       obtain ⟨x,rfl⟩:=zakK (ks:=ks) (by omega)
       have e5:zabv k n t=(decide (t=ByteArray.empty)&&decide (n=0)):=by
         unfold zabv; rw [if_neg (by omega),if_neg (by omega)]
       rw [e5,Bool.and_eq_true,decide_eq_true_eq,decide_eq_true_eq] at e2
       obtain ⟨rfl,rfl⟩:=e2
       exact h1 k a x k1 (e3 x (by simp)) (ih x (by simp) (e3 x (by simp)))
     · rw [if_neg k1] at e
       by_cases k0:k=1
       · subst k0
         have e:zabQ 1 t=0:=e
         have hl:ks=[]:=List.length_eq_zero_iff.1 (by omega)
         subst hl
         have e5:zabv 1 n t=(zaar t&&decide (n=0)):=rfl
         rw [e5,Bool.and_eq_true,decide_eq_true_eq] at e2
         obtain ⟨g,rfl⟩:=e2
         exact hn a t g
       · rw [if_neg k0] at e
         by_cases kc:k=10
         · subst kc
           have e:zabQ 10 t=if zaaH t-1<1 then zaaH t-1 else 1:=e
           have e5:zabv 10 n t=(decide (n=0)||(decide (zaaH t=3)&&(decide (0<n)&&decide (n<=999999)))):=rfl
           rw [e5,Bool.or_eq_true,Bool.and_eq_true,Bool.and_eq_true,decide_eq_true_eq,decide_eq_true_eq,decide_eq_true_eq,decide_eq_true_eq] at e2
           rcases zaiY t with f | f | f | f
           · rw [f,if_pos (by decide)] at e; omega
           · rw [f,if_pos (by decide)] at e
             have hl:ks=[]:=List.length_eq_zero_iff.1 (by omega)
             subst hl
             obtain rfl:n=0:=by omega
             exact c0 a t f
           · rw [f,if_neg (by decide)] at e
             obtain ⟨x,rfl⟩:=zakK (ks:=ks) (by omega)
             exact c1 a n t x (.inl ⟨f,by omega⟩) (e3 x (by simp)) (ih x (by simp) (e3 x (by simp)))
           · rw [f,if_neg (by decide)] at e
             obtain ⟨x,rfl⟩:=zakK (ks:=ks) (by omega)
             exact c1 a n t x (.inr ⟨f,by omega⟩) (e3 x (by simp)) (ih x (by simp) (e3 x (by simp)))
         · rw [if_neg kc] at e; omega
 · intro x hx; cases hx
 · intro x l hx hl y hy
   rcases List.mem_cons.1 hy with rfl | hy
   · exact hx
   · exact hl y hy
def levelK (k:Int):Nat:=if k=2∨k=3 then 0 else if k=4 then 1 else if k=5 then 2 else if k=6∨k=7∨k=8∨k=9 then 3 else 4
def zadR (n:Int):ByteArray:=⟨(Lib.itoa n).toArray⟩
abbrev Ky:=Int × ByteArray
def sg (k:Int):Ky:=(k,ByteArray.empty)
def wd (t:ByteArray):Ky:=(1,t)
def brK (lv:Nat)(p:Nat × List Ky):List Ky:=if p.1<lv then sg 2::(p.2++[sg 3]) else p.2
def k0 (l:List (Nat × List Ky)):Nat × List Ky:=l.getD 0 (0,[])
def k1 (l:List (Nat × List Ky)):Nat × List Ky:=l.getD 1 (0,[])
def zaAc (k n:Int)(t:ByteArray)(l:List (Nat × List Ky)):List Ky :=
 if k=2 then brK 0 (k0 l)++sg 7::brK 1 (k1 l)
 else if k=3 then brK 0 (k0 l)++sg 8::brK 1 (k1 l)
 else if k=4 then brK 1 (k0 l)++sg 9::brK 2 (k1 l)
 else if k=5 then sg 10::brK 2 (k0 l)
 else if k=6 then sg 5::brK 4 (k0 l)
 else if k=7 then brK 4 (k0 l)++[sg 5]
 else if k=8 then brK 4 (k0 l)++sg 5::brK 4 (k1 l)
 else if k=9 then brK 4 (k0 l)++sg 6::brK 4 (k1 l)
 else if k=10 then wd t::sg 2::((if zaaH t=1 then [] else if zaaH t=2 then (k0 l).2 else (k0 l).2++[sg 4,wd (zadR n)])++[sg 3])
 else [wd t]
mutual
def zafg:Nd->List Ky
 | .mk k _ n t ks=>zaAc k n t (zaxL ks)
def zaxL:List Nd->List (Nat × List Ky)
 | []=>[]
 | n::r=>(levelK n.kind,zafg n)::zaxL r
end
def atS (n:Nd)(lv:Nat):List Ky:=brK lv (levelK n.kind,zafg n)
def zaAy (k:Int)(t:ByteArray)(l:List (Nat × Nat)):Nat :=
 let b (lv:Nat) (p:Nat × Nat):Nat:=if p.1<lv then p.2+1 else p.2
 let x:=l.getD 0 (0,0)
 let y:=l.getD 1 (0,0)
 if k=2∨k=3 then max (b 0 x) (b 1 y)
 else if k=4 then max (b 1 x) (b 2 y)
 else if k=5 then b 2 x+1
 else if k=6 then b 4 x+1
 else if k=7 then max (b 4 x) 1
 else if k=8 then max (b 4 x) (b 4 y+1)
 else if k=9 then max (b 4 x) (b 4 y)
 else if k=10 then (if zaaH t=1 then 1 else x.2+1)
 else 0
mutual
def zaAx:Nd->Nat
 | .mk k _ _ t ks=>zaAy k t (zazy ks)
def zazy:List Nd->List (Nat × Nat)
 | []=>[]
 | n::r=>(levelK n.kind,zaAx n)::zazy r
end
end Go.TP
end
section
namespace Go.TP
open Go.AS
theorem zan9:∀ (k u:Nat),u<10 ^ (k+1)->(Lib.decDigits u).length<=k+1
 | 0,u,h=>by
  rw [Lib.decDigits,dif_pos (by simpa using h)]; simp
 | k+1,u,h=>by
  rw [Lib.decDigits]
  split
  · simp
  · rw [List.length_append]
    have:=zan9 k (u / 10) (by rw [Nat.pow_succ] at h; omega)
    simp only [List.length_cons,List.length_nil]; omega
theorem zaf3 {n:Int}(h:0<=n):Lib.itoa n=Lib.decDigits n.toNat:=if_neg (by omega)
theorem zai {n:Nd}{lv:Nat}(h:¬levelK n.kind<lv):atS n lv=zafg n:=if_neg h
theorem zaqz {n:Nd}{lv:Nat}(h:levelK n.kind<lv):atS n lv=sg 2::(zafg n++[sg 3]):=if_pos h
end Go.TP
end
section
namespace Go.TP
open Go.AS
theorem zawl {a:Int}{x:Nd}:zafg (.mk 7 a 0 ByteArray.empty [x])=atS x 4++[sg 5]:=rfl
theorem zawo {a:Int}{t:ByteArray}(h:zaaH t=1):zafg (.mk 10 a 0 t [])=[wd t,sg 2,sg 3]:=by
 have:zafg (.mk 10 a 0 t [])=wd t::sg 2::((if zaaH t=1 then [] else if zaaH t=2 then (k0 []).2 else (k0 []).2++[sg 4,wd (zadR 0)])++[sg 3]):=rfl
 rw [this,if_pos h]; rfl
theorem zawn {a n:Int}{t:ByteArray}{x:Nd}(h:zaaH t=2):zafg (.mk 10 a n t [x])=wd t::sg 2::(atS x 0++[sg 3]):=by
 have:zafg (.mk 10 a n t [x])=wd t::sg 2::((if zaaH t=1 then [] else if zaaH t=2 then zafg x else zafg x++[sg 4,wd (zadR n)])++[sg 3]):=rfl
 rw [this,if_neg (by omega),if_pos h]; rfl
theorem zawm {a n:Int}{t:ByteArray}{x:Nd}(h:zaaH t=3):zafg (.mk 10 a n t [x])=wd t::sg 2::(atS x 0++[sg 4,wd (zadR n),sg 3]):=by
 have:zafg (.mk 10 a n t [x])=wd t::sg 2::((if zaaH t=1 then [] else if zaaH t=2 then zafg x else zafg x++[sg 4,wd (zadR n)])++[sg 3]):=rfl
 rw [this,if_neg (by omega),if_neg (by omega),List.append_assoc]; rfl
end Go.TP
end
section
namespace Go.TP
open Go.AS
end Go.TP
end
section
namespace Go.TP
open Go.AS
def zaoH (k:Int):ByteArray:=if k=2 then ⟨#[40]⟩ else if k=3 then ⟨#[41]⟩ else if k=4 then ⟨#[44]⟩ else if k=5 then ⟨#[58,58]⟩ else if k=6 then ⟨#[46,46]⟩
 else if k=7 then ⟨#[43]⟩ else if k=8 then ⟨#[45]⟩ else if k=9 then ⟨#[38]⟩ else if k=11 then ByteArray.empty else ⟨#[33]⟩
def spell (p:Ky):ByteArray:=if p.1=1 then p.2 else zaoH p.1
def catK:List Ky->ByteArray
 | []=>ByteArray.empty
 | p::r=>spell p++catK r
theorem zadH:∀ a b:List Ky,catK (a++b)=catK a++catK b
 | [],b=>by rw [List.nil_append,catK,ByteArray.empty_append]
 | p::a,b=>by rw [List.cons_append,catK,catK,zadH a b,ByteArray.append_assoc]
def zabt (n:Nd):ByteArray:=catK (zafg n)
def zaaC (n:Nd)(lv:Nat):ByteArray:=catK (atS n lv)
def zah9:ByteArray:=⟨#[40]⟩
def zaeR:ByteArray:=⟨#[41]⟩
theorem zaed (n:Nd)(lv:Nat):zaaC n lv=if levelK n.kind<lv then zah9++zabt n++zaeR else zabt n:=by
 unfold zaaC zabt
 by_cases h:levelK n.kind<lv
 · rw [if_pos h,zaqz h,catK,zadH,catK,catK,ByteArray.append_empty,ByteArray.append_assoc]; rfl
 · rw [if_neg h,zai h]
theorem zahl {k a:Int}{x y:Nd}{s:Int}{i j:Nat}(h:zafg (.mk k a 0 ByteArray.empty [x,y])=atS x i++sg s::atS y j)(hs:s≠1):zabt (.mk k a 0 ByteArray.empty [x,y])=zaaC x i++zaoH s++zaaC y j:=by
 unfold zabt zaaC
 have e:spell (sg s)=zaoH s:=if_neg hs
 rw [h,zadH,catK,e,ByteArray.append_assoc]
theorem zame {a:Int}{t:ByteArray}:zabt (.mk 1 a 0 t [])=t:=by
 have:zabt (.mk 1 a 0 t [])=t++ByteArray.empty:=rfl
 rw [this,ByteArray.append_empty]
theorem zaoB {a:Int}{x:Nd}:zabt (.mk 5 a 0 ByteArray.empty [x])=⟨#[33]⟩++zaaC x 2:=rfl
theorem zaoA {a:Int}{x:Nd}:zabt (.mk 6 a 0 ByteArray.empty [x])=⟨#[58,58]⟩++zaaC x 4:=rfl
theorem zaoz {a:Int}{x:Nd}:zabt (.mk 7 a 0 ByteArray.empty [x])=zaaC x 4++⟨#[58,58]⟩:=by
 unfold zabt zaaC
 have e:spell (sg 5)=⟨#[58,58]⟩:=rfl
 rw [zawl,zadH,catK,e,catK,ByteArray.append_empty]
theorem zaka {a:Int}{t:ByteArray}(h:zaaH t=1):zabt (.mk 10 a 0 t [])=t++zah9++ByteArray.empty++zaeR:=by
 unfold zabt
 have e1:spell (wd t)=t:=rfl
 have e2:spell (sg 2)=zah9:=rfl
 have e3:spell (sg 3)=zaeR:=rfl
 rw [zawo h,catK,catK,catK,catK,e1,e2,e3]
 simp only [ByteArray.append_assoc,ByteArray.append_empty,ByteArray.empty_append]
theorem zak {a n:Int}{t:ByteArray}{x:Nd}(h:zaaH t=2):zabt (.mk 10 a n t [x])=t++zah9++zabt x++zaeR:=by
 unfold zabt
 have e1:spell (wd t)=t:=rfl
 have e2:spell (sg 2)=zah9:=rfl
 have e3:spell (sg 3)=zaeR:=rfl
 rw [zawn h,catK,catK,zadH,catK,catK,e1,e2,e3,zai (by omega)]
 simp only [ByteArray.append_assoc,ByteArray.append_empty]
theorem zaj9 {a n:Int}{t:ByteArray}{x:Nd}(h:zaaH t=3):zabt (.mk 10 a n t [x])=t++zah9++(zabt x++⟨#[44]⟩++zadR n)++zaeR:=by
 unfold zabt
 have e1:spell (wd t)=t:=rfl
 have e2:spell (sg 2)=zah9:=rfl
 have e3:spell (sg 3)=zaeR:=rfl
 have e4:spell (sg 4)=⟨#[44]⟩:=rfl
 have e5:spell (wd (zadR n))=zadR n:=rfl
 rw [zawm h,catK,catK,zadH,catK,catK,catK,catK,e1,e2,e3,e4,e5,zai (by omega)]
 simp only [ByteArray.append_assoc,ByteArray.append_empty]
end Go.TP
end
section
namespace Go.TP
open Go.AS
theorem zaos {s:ByteArray}(h:zaaI (zaaa s 0)=false):zagr s=0:=by
 unfold zagr
 cases hs:s.size with
 | zero=>rfl
 | succ n =>
  rw [zadL,if_neg]
  rintro ⟨_,g⟩
  rw [show (0:Int).toNat=0 from rfl,h] at g; cases g
end Go.TP
end
section
namespace Go.TP
open Go.AS
end Go.TP
end
section
namespace Go.Proofs.YtpofhijgccocpaaGreatDoor
open Go.AS Go.TP Go.RowKit Go.Sort
noncomputable section
theorem zavA (vals:Array Value)(w:World):(callFunc zanb vals).run Tryz.prog w = .ok (.enter zanb vals) w:=by
 have h0:(program).run Tryz.prog w = .ok Tryz.prog w:=rfl
 have hf:Tryz.prog.funcs[zanb]?=some (fn zanb):=fnOk zanb (by kernel_rfl)
 have hn:((fn zanb).name == "runtime.NumGoroutine")=false:=by kernel_rfl
 have hb:(fn zanb).body.isNone=false:=by kernel_rfl
 simp only [callFunc,Sem.run_bind,h0,Result.andThen_ok,hf,hn,hb,Bool.false_eq_true,if_false,Sem.run_pure]
theorem zaft:∀ l:List Int,zahJ (l.map fun z => .lit (.int .u64 z))=some (l.map fun z => .int .u64 z)
 | []=>rfl
 | z::l=>by rw [List.map_cons,zahJ,zaft l]; rfl
theorem zase {E:Env}{w:World}(hg:GLr gl0 E)(hh:Holds E .nil w):Lib.TabIs Tryz.prog w "internal/strconv.uint64pow10" .u64 Lib.pow10Tab:=by
 obtain ⟨t,fz,h⟩:=(hg gPow powA rfl).tab (powL.map fun z => .int .u64 z) (zaft powL)
 have h2:=hh.imm _ _ h
 have e1:Tryz.prog.globalNamed "internal/strconv.uint64pow10" = some gPow:=by kernel_rfl
 have e2:Lib.pow10Tab=powL:=by decide +kernel
 unfold Lib.TabIs World.var?
 rw [e1,Option.bind_some,h2,e2]
theorem zasN (n:Int)(h0 : -9223372036854775808<=n)(h1:n<=9223372036854775807):F zanb [i0 n] (s0 ⟨(Lib.itoa n).toArray⟩):=by
 intro E w vals hg hh hf _ hv
 obtain ⟨u,us,k1,k2,rfl⟩:=hv.vs_cons_inv
 have:=k1.lit_inv; subst this
 have:=k2.vs_nil_inv; subst this
 refine .inl ⟨zavA _ w,(Tryz.strconv_Itoa n h0 h1 w (zase hg hh)).mono ?_⟩
 rintro e w' ⟨rfl,k,os,rfl⟩
 have hb:Below w.heap.size w (grow (w.drewN k) os) :=
  ⟨rfl,rfl,rfl,by show w.heap.size<=(w.heap++os).size; rw [Array.size_append]; omega,fun j hj=>by show (w.heap++os)[j]?=w.heap[j]?; rw [Array.getElem?_append_left hj]⟩
 obtain ⟨g1,g2⟩:=zajw hh hb
 exact ⟨_,rfl, .z,_,E,rfl,⟨fun l _=>rfl,fun l e he=>⟨e,he⟩⟩, .lit _,g1,g2⟩
end
end Go.Proofs.YtpofhijgccocpaaGreatDoor
end
section
namespace Go.Proofs.YtpofhijgccocpaaGreatDoor
open Go.AS Go.TP
noncomputable section
def sp1e (xs:List AV)(r:AV):Sp := .pure Unit (fun _=>True) (fun _=>xs) (fun _=>r)
def gLev (os:Orc)(k a m:Int)(t:ByteArray)(ks:List AV)(r:Int):Prop:=gF XB [zana] zana os [ndV k a m t ks] (i0 r)
def zaxO:Sp := .pure NV (fun _=>True) (fun v=>[ndV v.k v.a v.m v.t v.ks]) (fun v=>i0 (levelK v.k))
def zarp:Sp := .pure Int (fun n=>0<=n/\n<=999999) (fun n=>[i0 n]) (fun n=>s0 (zadR n))
def XT0:WX:=((XB.add zana (Sp.con [zaxO])).add zavy (Sp.con [zair])).add zanb (Sp.con [zarp])
def spBr (P:Nd->Prop):Sp := .pure (Nd × Nat) (fun q=>P q.1) (fun q=>[encP q.1,i0 q.2]) (fun q=>s0 (zaaC q.1 q.2))
def gBr (os:Orc)(n:Nd)(lv:Nat)(s r:ByteArray):Prop:=gF (XT0.add fTextN (Sp.con [sp1e [encP n] (s0 s)])) [zai2] zai2 os [encP n,i0 lv] (s0 r)
def gIn (X:WX)(os:Orc)(a m:Int)(t:ByteArray)(ks:List AV)(r:ByteArray):Prop:=gF X [zafy] zafy os [ndV 10 a m t ks] (s0 r)
def gIn0 (os:Orc)(a m:Int)(t:ByteArray)(ks:List AV)(r:ByteArray):Prop:=gIn XT0 os a m t ks r
def gIn1 (os:Orc)(a m:Int)(t:ByteArray)(x:Nd)(s r:ByteArray):Prop:=gIn (XT0.add fTextN (Sp.con [sp1e [encP x] (s0 s)])) os a m t [encP x] r
def gIn2 (os:Orc)(a m:Int)(t:ByteArray)(x:Nd)(s r:ByteArray):Prop:=gIn (XT0.add fTextN (Sp.con [sp1e [encP x] (s0 s)])) os a m t [encP x] r
def XT1 (P:Nd->Prop):WX:=XT0.add zai2 (Sp.con [spBr P])
def gTx (X:WX)(os:Orc)(k a m:Int)(t:ByteArray)(ks:List AV)(r:ByteArray):Prop:=gF X [fTextN] fTextN os [ndV k a m t ks] (s0 r)
def gTxN (os:Orc)(a m:Int)(t:ByteArray)(ks:List AV)(r:ByteArray):Prop:=gTx XT0 os 1 a m t ks r
def gTx2 (os:Orc)(P:Nd->Prop)(a:Int)(x y:Nd)(r:ByteArray):Prop:=gTx (XT1 P) os 2 a 0 ByteArray.empty [encP x,encP y] r
def gTx3 (os:Orc)(P:Nd->Prop)(a:Int)(x y:Nd)(r:ByteArray):Prop:=gTx (XT1 P) os 3 a 0 ByteArray.empty [encP x,encP y] r
def gTx4 (os:Orc)(P:Nd->Prop)(a:Int)(x y:Nd)(r:ByteArray):Prop:=gTx (XT1 P) os 4 a 0 ByteArray.empty [encP x,encP y] r
def gTx8 (os:Orc)(P:Nd->Prop)(a:Int)(x y:Nd)(r:ByteArray):Prop:=gTx (XT1 P) os 8 a 0 ByteArray.empty [encP x,encP y] r
def gTx9 (os:Orc)(P:Nd->Prop)(a:Int)(x y:Nd)(r:ByteArray):Prop:=gTx (XT1 P) os 9 a 0 ByteArray.empty [encP x,encP y] r
def gTx5 (os:Orc)(P:Nd->Prop)(a:Int)(x:Nd)(r:ByteArray):Prop:=gTx (XT1 P) os 5 a 0 ByteArray.empty [encP x] r
def gTx6 (os:Orc)(P:Nd->Prop)(a:Int)(x:Nd)(r:ByteArray):Prop:=gTx (XT1 P) os 6 a 0 ByteArray.empty [encP x] r
def gTx7 (os:Orc)(P:Nd->Prop)(a:Int)(x:Nd)(r:ByteArray):Prop:=gTx (XT1 P) os 7 a 0 ByteArray.empty [encP x] r
def gTxC (os:Orc)(a m:Int)(t:ByteArray)(ks:List AV)(i r:ByteArray):Prop:=gTx (XT0.add zafy (Sp.con [sp1e [ndV 10 a m t ks] (s0 i)])) os 10 a m t ks r
def gPrN (os:Orc)(n:Nd):Prop:=gF (XB.add zacJ (Sp.con [sp1e [encP n] (b0 false)])) [zag4] zag4 os [encP n] (s0 ByteArray.empty)
def gPr (os:Orc)(n:Nd)(b:Bool)(s r:ByteArray):Prop:=gF ((XB.add zacJ (Sp.con [sp1e [encP n] (b0 b)])).add fTextN (Sp.con [sp1e [encP n] (s0 s)])) [zag4] zag4 os [encP n] (s0 r)
end
end Go.Proofs.YtpofhijgccocpaaGreatDoor
end
section
namespace Go.Proofs.YtpofhijgccocpaaGreatDoor
open Go Go.AS Go.TP
noncomputable abbrev zanJ (i1:Nd × Nat):=[AV.agg [i0 (Nd.kind (Prod.fst i1)),i0 (Nd.at_ (Prod.fst i1)),i0 (Nd.num (Prod.fst i1)),s0 (Nd.text (Prod.fst i1)),AV.lst false 5 (encL (Nd.kids (Prod.fst i1)))],i0 (↑(Prod.snd i1):Int)]
noncomputable abbrev zasc (i2:Nd × Nat):=[AV.agg [i0 (Nd.kind (Prod.fst i2)),i0 (Nd.at_ (Prod.fst i2)),i0 (Nd.num (Prod.fst i2)),s0 (Nd.text (Prod.fst i2)),AV.lst false 5 (encL (Nd.kids (Prod.fst i2)))],i0 (↑(Prod.snd i2):Int)]
def zaza:Orc:=Orc.s (Orc.t Orc.z) (Orc.s Orc.z (Orc.s Orc.z (Orc.s Orc.z (Orc.s (Orc.t Orc.z) (Orc.s (Orc.t Orc.z) (Orc.s (Orc.t Orc.z) (Orc.s Orc.z Orc.z)))))))
theorem zauB (k a m:Int)(t:ByteArray)(ks:List AV)(r:Int):gLev zaza k a m t ks r=(((k==2)=true->Yt (Wk (i0 0) (i0 r)/\SameH (hpL []) (hpL [])))/\((k==2)=false->((k==3)=true->Wk (i0 0) (i0 r)/\SameH (hpL []) (hpL []))/\((k==3)=false->((k==4)=true->Wk (i0 1) (i0 r)/\SameH (hpL []) (hpL []))/\((k==4)=false->((k==5)=true->Wk (i0 2) (i0 r)/\SameH (hpL []) (hpL []))/\((k==5)=false->((k==6)=true->Yt (Wk (i0 3) (i0 r)/\SameH (hpL []) (hpL [])))/\((k==6)=false->((k==7)=true->Yt (Wk (i0 3) (i0 r)/\SameH (hpL []) (hpL [])))/\((k==7)=false->((k==8)=true->Yt (Wk (i0 3) (i0 r)/\SameH (hpL []) (hpL [])))/\((k==8)=false->((k==9)=true->Wk (i0 3) (i0 r)/\SameH (hpL []) (hpL []))/\((k==9)=false->Wk (i0 4) (i0 r)/\SameH (hpL []) (hpL [])))))))))):=by kernel_rfl
theorem zaxs (n:Nd)(lv:Nat)(s r:ByteArray):gBr (Orc.s Orc.z Orc.z) n lv s r=(let z1:=(True/\Wks [encP n] [encP n]/\hpL []=hpL []); ∃ (i1:NV),(True/\Wks [encP n] [AV.agg [i0 (NV.k i1),i0 (NV.a i1),i0 (NV.m i1),s0 (NV.t i1),AV.lst false 5 (NV.ks i1)]]/\hpL []=hpL [])/\(decide ((↑(levelK (NV.k i1)):Int)<(↑lv:Int))=true->∃ (_:Unit),z1/\decide (1+ByteArray.size s<=9223372036854775807)=true/\decide (ByteArray.size (⟨⟨[(40:UInt8)]⟩⟩++s)+1<=9223372036854775807)=true/\Wk (s0 (⟨⟨[(40:UInt8)]⟩⟩++s++⟨⟨[(41:UInt8)]⟩⟩)) (s0 r)/\SameH (hpL []) (hpL []))/\(decide ((↑(levelK (NV.k i1)):Int)<(↑lv:Int))=false->∃ (_:Unit),z1/\Wk (s0 s) (s0 r)/\SameH (hpL []) (hpL []))):=by kernel_rfl
theorem zau2 (a m:Int)(t:ByteArray)(ks:List AV)(r:ByteArray):gIn0 (Orc.t Orc.z) a m t ks r=(∃ (i1:ByteArray),(True/\Wks [s0 t] [s0 i1]/\hpL []=hpL [])/\(zaaH i1==1)=true/\Wk (s0 ⟨⟨[]⟩⟩) (s0 r)/\SameH (hpL []) (hpL [])):=by kernel_rfl
theorem zau0 (a m:Int)(t:ByteArray)(x:Nd)(s r:ByteArray):gIn1 (Orc.f (Orc.t Orc.z)) a m t x s r=(∃ (i1:ByteArray),(True/\Wks [s0 t] [s0 i1]/\hpL []=hpL [])/\(zaaH i1==1)=false/\(zaaH i1==2)=true/\U1 [encP x] [] (Wk (s0 s) (s0 r)/\SameH (hpL []) (hpL []))):=by kernel_rfl
theorem zauY (a m:Int)(t:ByteArray)(x:Nd)(s r:ByteArray):gIn2 (Orc.f (Orc.f Orc.z)) a m t x s r=(∃ (i1:ByteArray),(True/\Wks [s0 t] [s0 i1]/\hpL []=hpL [])/\(zaaH i1==1)=false/\(zaaH i1==2)=false/\U1 [encP x] [] (decide (ByteArray.size s+1<=9223372036854775807)=true/\∃ (i3:Int),(((0:Int)<=i3/\i3<=999999)/\Wks [i0 m] [i0 i3]/\hpL []=hpL [])/\decide (ByteArray.size (s++⟨⟨[(44:UInt8)]⟩⟩)+ByteArray.size (zadR i3)<=9223372036854775807)=true/\Wk (s0 (s++⟨⟨[(44:UInt8)]⟩⟩++zadR i3)) (s0 r)/\SameH (hpL []) (hpL []))):=by kernel_rfl
def zayK:Orc:=HF (HF (Orc.f Orc.z))
theorem zatr (a m:Int)(t:ByteArray)(ks:List AV)(r:ByteArray):gTxN zayK a m t ks r=(Nf4 (Nf4 (Nf (Wk (s0 t) (s0 r)/\SameH (hpL []) (hpL []))))):=by kernel_rfl
theorem zatJ (P:Nd->Prop)(a:Int)(x y:Nd)(r:ByteArray):gTx2 (Orc.t Orc.z) P a x y r=(Yt (∃ (i1:Nd × Nat),(P (Prod.fst i1)/\Wks [encP x,i0 0] (zanJ i1)/\hpL []=hpL [])/\decide (ByteArray.size (zaaC (Prod.fst i1) (Prod.snd i1))+1<=9223372036854775807)=true/\∃ (i2:Nd × Nat),(P (Prod.fst i2)/\Wks [encP y,i0 1] (zasc i2)/\hpL []=hpL [])/\decide (ByteArray.size (zaaC (Prod.fst i1) (Prod.snd i1)++⟨⟨[(43:UInt8)]⟩⟩)+ByteArray.size (zaaC (Prod.fst i2) (Prod.snd i2))<=9223372036854775807)=true/\Wk (s0 (zaaC (Prod.fst i1) (Prod.snd i1)++⟨⟨[(43:UInt8)]⟩⟩++zaaC (Prod.fst i2) (Prod.snd i2))) (s0 r)/\SameH (hpL []) (hpL []))):=by kernel_rfl
theorem zatH (P:Nd->Prop)(a:Int)(x y:Nd)(r:ByteArray):gTx3 (Orc.f (Orc.t Orc.z)) P a x y r=(Nf (Yt (∃ (i1:Nd × Nat),(P (Prod.fst i1)/\Wks [encP x,i0 0] (zanJ i1)/\hpL []=hpL [])/\decide (ByteArray.size (zaaC (Prod.fst i1) (Prod.snd i1))+1<=9223372036854775807)=true/\∃ (i2:Nd × Nat),(P (Prod.fst i2)/\Wks [encP y,i0 1] (zasc i2)/\hpL []=hpL [])/\decide (ByteArray.size (zaaC (Prod.fst i1) (Prod.snd i1)++⟨⟨[(45:UInt8)]⟩⟩)+ByteArray.size (zaaC (Prod.fst i2) (Prod.snd i2))<=9223372036854775807)=true/\Wk (s0 (zaaC (Prod.fst i1) (Prod.snd i1)++⟨⟨[(45:UInt8)]⟩⟩++zaaC (Prod.fst i2) (Prod.snd i2))) (s0 r)/\SameH (hpL []) (hpL [])))):=by kernel_rfl
theorem zatF (P:Nd->Prop)(a:Int)(x y:Nd)(r:ByteArray):gTx4 (Orc.f (Orc.f (Orc.t Orc.z))) P a x y r=(Nf (Nf (Yt (∃ (i1:Nd × Nat),(P (Prod.fst i1)/\Wks [encP x,i0 1] (zanJ i1)/\hpL []=hpL [])/\decide (ByteArray.size (zaaC (Prod.fst i1) (Prod.snd i1))+1<=9223372036854775807)=true/\∃ (i2:Nd × Nat),(P (Prod.fst i2)/\Wks [encP y,i0 2] (zasc i2)/\hpL []=hpL [])/\decide (ByteArray.size (zaaC (Prod.fst i1) (Prod.snd i1)++⟨⟨[(38:UInt8)]⟩⟩)+ByteArray.size (zaaC (Prod.fst i2) (Prod.snd i2))<=9223372036854775807)=true/\Wk (s0 (zaaC (Prod.fst i1) (Prod.snd i1)++⟨⟨[(38:UInt8)]⟩⟩++zaaC (Prod.fst i2) (Prod.snd i2))) (s0 r)/\SameH (hpL []) (hpL []))))):=by kernel_rfl
def zayN:Orc:=HF (Orc.f (Orc.f (Orc.t Orc.z)))
theorem zatx (P:Nd->Prop)(a:Int)(x y:Nd)(r:ByteArray):gTx8 zayN P a x y r=(Nf4 (Nf (Nf (Yt (∃ (i1:Nd × Nat),(P (Prod.fst i1)/\Wks [encP x,i0 4] (zanJ i1)/\hpL []=hpL [])/\decide (ByteArray.size (zaaC (Prod.fst i1) (Prod.snd i1))+2<=9223372036854775807)=true/\∃ (i2:Nd × Nat),(P (Prod.fst i2)/\Wks [encP y,i0 4] (zasc i2)/\hpL []=hpL [])/\decide (ByteArray.size (zaaC (Prod.fst i1) (Prod.snd i1)++bCC)+ByteArray.size (zaaC (Prod.fst i2) (Prod.snd i2))<=9223372036854775807)=true/\Wk (s0 (zaaC (Prod.fst i1) (Prod.snd i1)++bCC++zaaC (Prod.fst i2) (Prod.snd i2))) (s0 r)/\SameH (hpL []) (hpL [])))))):=by kernel_rfl
def zayM:Orc:=HF (Orc.f (Orc.f (Orc.f (Orc.t Orc.z))))
theorem zatv (P:Nd->Prop)(a:Int)(x y:Nd)(r:ByteArray):gTx9 zayM P a x y r=(Nf4 (Nf (Nf (Nf (Yt (∃ (i1:Nd × Nat),(P (Prod.fst i1)/\Wks [encP x,i0 4] (zanJ i1)/\hpL []=hpL [])/\decide (ByteArray.size (zaaC (Prod.fst i1) (Prod.snd i1))+2<=9223372036854775807)=true/\∃ (i2:Nd × Nat),(P (Prod.fst i2)/\Wks [encP y,i0 4] (zasc i2)/\hpL []=hpL [])/\decide (ByteArray.size (zaaC (Prod.fst i1) (Prod.snd i1)++bDD)+ByteArray.size (zaaC (Prod.fst i2) (Prod.snd i2))<=9223372036854775807)=true/\Wk (s0 (zaaC (Prod.fst i1) (Prod.snd i1)++bDD++zaaC (Prod.fst i2) (Prod.snd i2))) (s0 r)/\SameH (hpL []) (hpL []))))))):=by kernel_rfl
def zayQ:Orc:=Orc.f (Orc.f (Orc.f (Orc.t Orc.z)))
theorem zatD (P:Nd->Prop)(a:Int)(x:Nd)(r:ByteArray):gTx5 zayQ P a x r=(Nf (Nf (Nf (Yt (∃ (i1:Nd × Nat),(P (Prod.fst i1)/\Wks [encP x,i0 2] (zanJ i1)/\hpL []=hpL [])/\decide (1+ByteArray.size (zaaC (Prod.fst i1) (Prod.snd i1))<=9223372036854775807)=true/\Wk (s0 (⟨⟨[(33:UInt8)]⟩⟩++zaaC (Prod.fst i1) (Prod.snd i1))) (s0 r)/\SameH (hpL []) (hpL [])))))):=by kernel_rfl
def zayP:Orc:=HF (Orc.t Orc.z)
theorem zatB (P:Nd->Prop)(a:Int)(x:Nd)(r:ByteArray):gTx6 zayP P a x r=(Nf4 (Yt (∃ (i1:Nd × Nat),(P (Prod.fst i1)/\Wks [encP x,i0 4] (zanJ i1)/\hpL []=hpL [])/\decide (2+ByteArray.size (zaaC (Prod.fst i1) (Prod.snd i1))<=9223372036854775807)=true/\Wk (s0 (bCC++zaaC (Prod.fst i1) (Prod.snd i1))) (s0 r)/\SameH (hpL []) (hpL [])))):=by kernel_rfl
def zayO:Orc:=HF (Orc.f (Orc.t Orc.z))
theorem zatz (P:Nd->Prop)(a:Int)(x:Nd)(r:ByteArray):gTx7 zayO P a x r=(Nf4 (Nf (Yt (∃ (i1:Nd × Nat),(P (Prod.fst i1)/\Wks [encP x,i0 4] (zanJ i1)/\hpL []=hpL [])/\decide (ByteArray.size (zaaC (Prod.fst i1) (Prod.snd i1))+2<=9223372036854775807)=true/\Wk (s0 (zaaC (Prod.fst i1) (Prod.snd i1)++bCC)) (s0 r)/\SameH (hpL []) (hpL []))))):=by kernel_rfl
def zayL:Orc:=HF (HF (Orc.t Orc.z))
theorem zatt (a m:Int)(t:ByteArray)(ks:List AV)(i r:ByteArray):gTxC zayL a m t ks i r=(let z1:=[AV.agg [i0 10,i0 a,i0 m,s0 t,AV.lst false 5 ks]]; Nf4 (Nf4 (Yt (decide (ByteArray.size t+1<=9223372036854775807)=true/\U1 z1 [] (decide (ByteArray.size (t++⟨⟨[(40:UInt8)]⟩⟩)+ByteArray.size i<=9223372036854775807)=true/\decide (ByteArray.size (t++⟨⟨[(40:UInt8)]⟩⟩++i)+1<=9223372036854775807)=true/\Wk (s0 (t++⟨⟨[(40:UInt8)]⟩⟩++i++⟨⟨[(41:UInt8)]⟩⟩)) (s0 r)/\SameH (hpL []) (hpL [])))))):=by kernel_rfl
theorem zaw5 (n:Nd)(b:Bool)(s r:ByteArray):gPr (Orc.s Orc.z Orc.z) n b s r=(let z1:=(True/\Wks [encP n] [encP n]/\hpL []=hpL []); ∃ (_:Unit),z1/\((!b)=true->Wk (s0 ⟨⟨[]⟩⟩) (s0 r)/\SameH (hpL []) (hpL []))/\((!b)=false->∃ (_:Unit),z1/\Wk (s0 s) (s0 r)/\SameH (hpL []) (hpL []))):=by kernel_rfl
theorem zaul (n:Nd):gPrN (Orc.t Orc.z) n=(U1 [encP n] [] (Yt (Wk (s0 ⟨⟨[]⟩⟩) (s0 ByteArray.empty)/\SameH (hpL []) (hpL [])))):=by kernel_rfl
end Go.Proofs.YtpofhijgccocpaaGreatDoor
end
section
namespace Go.Proofs.YtpofhijgccocpaaGreatDoor
open Go.AS Go.TP
noncomputable section
theorem eqB {a b:Int}(h:a=b):(a==b)=true:=beq_iff_eq.2 h
theorem zahk {f:Nat}{xs:List AV}{r:AV}(h:F f xs r):zagn Tryz.prog gl0 f (Sp.con [sp1e xs r]):=zabO (s:=sp1e xs r) fun _ _=>h
theorem zauC (k a m:Int)(t:ByteArray)(ks:List AV):gLev zaza k a m t ks (levelK k):=by
 rw [zauB]
 have e:∀ (c:Nat),levelK k=c->Wk (AV.lit (.int .i64 (c:Int))) (AV.lit (.int .i64 (levelK k)))/\SameH (hpL []) (hpL []):=fun c h=>by rw [h]; exact ⟨.refl _, .rfl⟩
 refine ⟨fun h=>⟨rfl,e 0 (by rw [eqT h]; rfl)⟩,fun h1=>⟨fun h=>e 0 (by rw [eqT h]; rfl),fun h2=>⟨fun h=>e 1 (by rw [eqT h]; rfl),fun h3=>⟨fun h=>e 2 (by rw [eqT h]; rfl),fun h4=>⟨fun h=>⟨rfl,e 3 (by rw [eqT h]; rfl)⟩,fun h5=>⟨fun h=>⟨rfl,e 3 (by rw [eqT h]; rfl)⟩,fun h6=>⟨fun h=>⟨rfl,e 3 (by rw [eqT h]; rfl)⟩,fun h7=>⟨fun h=>e 3 (by rw [eqT h]; rfl),fun h8=>e 4 ?_⟩⟩⟩⟩⟩⟩⟩⟩
 have h1:=eqF h1
 have h2:=eqF h2
 have h3:=eqF h3
 have h4:=eqF h4
 have h5:=eqF h5
 have h6:=eqF h6
 have h7:=eqF h7
 have h8:=eqF h8
 unfold levelK
 rw [if_neg (by omega),if_neg h3,if_neg h4,if_neg (by omega)]
attribute [local irreducible] runF in
set_option maxRecDepth 100000 in
theorem zapJ (k a m:Int)(t:ByteArray)(ks:List AV):F zana [ndV k a m t ks] (i0 (levelK k)):=F_ok zabg rfl (by kernel_rfl) (by kernel_rfl) (by kernel_rfl) (zauC k a m t ks)
theorem zaic:XT0.Sound:=((zabg.add (zabO (s:=zaxO) fun v _=>zapJ v.k v.a v.m v.t v.ks)).add (zabO (s:=zair) fun w _=>zan6 w)).add (zabO (s:=zarp) fun n h=>zasN n (by have:=h.1; omega) (by have:=h.2; omega))
theorem zaxt (n:Nd)(lv:Nat)(hs:(zabt n).size<=2000000):gBr (Orc.s Orc.z Orc.z) n lv (zabt n) (zaaC n lv):=by
 rw [zaxs,zaed]
 refine ⟨⟨n.kind,n.at_,n.num,n.text,encL n.kids⟩,⟨trivial, .refl _,rfl⟩,fun h => ?_,fun h => ?_⟩
 · have h:((levelK n.kind:Nat):Int)<(lv:Int):=of_decide_eq_true h
   have h:levelK n.kind<lv:=by omega
   rw [if_pos h]
   refine ⟨(),⟨trivial, .refl _,rfl⟩,decide_eq_true ?_,decide_eq_true ?_, .refl _, .rfl⟩
   · omega
   · show (zah9++zabt n).size+1<=9223372036854775807
     rw [ByteArray.size_append]
     have:zah9.size=1:=rfl
     omega
 · have h:¬((levelK n.kind:Nat):Int)<(lv:Int):=of_decide_eq_false h
   have h:¬levelK n.kind<lv:=by omega
   rw [if_neg h]
   exact ⟨(),⟨trivial, .refl _,rfl⟩, .refl _, .rfl⟩
abbrev FTx (n:Nd):Prop:=F fTextN [encP n] (s0 (zabt n))
def zajP (n:Nd):Prop:=∀ lv:Nat,F zai2 [encP n,i0 lv] (s0 (zaaC n lv))
attribute [local irreducible] runF in
set_option maxRecDepth 100000 in
theorem brOf {n:Nd}(h:FTx n)(hs:(zabt n).size<=2000000):zajP n:=fun lv =>
 F_ok (X:=XT0.add fTextN (Sp.con [sp1e [encP n] (s0 (zabt n))])) (zaic.add (zahk h)) rfl (by kernel_rfl) (by kernel_rfl) (by kernel_rfl) (zaxt n lv hs)
theorem zahe:(XT1 zajP).Sound:=zaic.add (zabO (s:=spBr zajP) fun q h=>h q.2)
theorem zau3 (a m:Int)(t:ByteArray)(ks:List AV)(h:zaaH t=1):gIn0 (Orc.t Orc.z) a m t ks ByteArray.empty:=by
 rw [zau2]; exact ⟨t,⟨trivial, .refl _,rfl⟩,eqB h, .refl _, .rfl⟩
theorem zau1 (a m:Int)(t:ByteArray)(x:Nd)(s:ByteArray)(h:zaaH t=2):gIn1 (Orc.f (Orc.t Orc.z)) a m t x s s:=by
 rw [zau0]; exact ⟨t,⟨trivial, .refl _,rfl⟩,beq_eq_false_iff_ne.2 (by omega),eqB h,(),⟨trivial, .refl _,rfl⟩, .refl _, .rfl⟩
theorem zauZ (a m:Int)(t:ByteArray)(x:Nd)(s:ByteArray)(h:zaaH t=3)(h0:0<=m)(h1:m<=999999)(hs:(s++⟨#[44]⟩++zadR m).size<=2000000):gIn2 (Orc.f (Orc.f Orc.z)) a m t x s (s++⟨#[44]⟩++zadR m):=by
 rw [ByteArray.size_append,ByteArray.size_append] at hs
 have e:(⟨#[44]⟩:ByteArray).size=1:=rfl
 rw [zauY]
 refine ⟨t,⟨trivial, .refl _,rfl⟩,beq_eq_false_iff_ne.2 (by omega),beq_eq_false_iff_ne.2 (by omega),(),⟨trivial, .refl _,rfl⟩,decide_eq_true (by omega),m,⟨⟨h0,h1⟩, .refl _,rfl⟩,decide_eq_true ?_, .refl _, .rfl⟩
 show (s++⟨#[44]⟩).size+(zadR m).size<=9223372036854775807
 rw [ByteArray.size_append]; omega
theorem zats (a m:Int)(t:ByteArray)(ks:List AV):gTxN zayK a m t ks t:=by
 rw [zatr]; exact ⟨rfl,rfl,rfl,rfl,rfl,rfl,rfl,rfl,rfl, .refl _, .rfl⟩
theorem zatu (a m:Int)(t:ByteArray)(ks:List AV)(i:ByteArray)(hs:(t++zah9++i++zaeR).size<=2000000):gTxC zayL a m t ks i (t++zah9++i++zaeR):=by
 rw [ByteArray.size_append,ByteArray.size_append,ByteArray.size_append] at hs
 have e1:zah9.size=1:=rfl
 have e2:zaeR.size=1:=rfl
 rw [zatt]
 refine ⟨rfl,rfl,rfl,rfl,rfl,rfl,rfl,rfl,rfl,decide_eq_true (by omega),(),⟨trivial, .refl _,rfl⟩,decide_eq_true ?_,decide_eq_true ?_, .refl _, .rfl⟩
 · show (t++zah9).size+i.size<=9223372036854775807
   rw [ByteArray.size_append]; omega
 · show (t++zah9++i).size+1<=9223372036854775807
   rw [ByteArray.size_append,ByteArray.size_append]; omega
theorem zatK (P:Nd->Prop)(a:Int)(x y:Nd)(hx:P x)(hy:P y)(s:(zaaC x 0++⟨#[43]⟩++zaaC y 1).size<=2000000):gTx2 (Orc.t Orc.z) P a x y (zaaC x 0++⟨#[43]⟩++zaaC y 1):=by
 rw [ByteArray.size_append,ByteArray.size_append] at s
 rw [zatJ]
 refine ⟨rfl,(x,0),⟨hx, .refl _,rfl⟩,decide_eq_true ?_,(y,1),⟨hy, .refl _,rfl⟩,decide_eq_true ?_, .refl _, .rfl⟩
 · have e:(⟨#[43]⟩:ByteArray).size=1:=rfl
   show (zaaC x 0).size+1<=9223372036854775807; omega
 · have e:(⟨#[43]⟩:ByteArray).size=1:=rfl
   show (zaaC x 0++⟨#[43]⟩).size+(zaaC y 1).size<=9223372036854775807
   rw [ByteArray.size_append]; omega
theorem zatI (P:Nd->Prop)(a:Int)(x y:Nd)(hx:P x)(hy:P y)(s:(zaaC x 0++⟨#[45]⟩++zaaC y 1).size<=2000000):gTx3 (Orc.f (Orc.t Orc.z)) P a x y (zaaC x 0++⟨#[45]⟩++zaaC y 1):=by
 rw [ByteArray.size_append,ByteArray.size_append] at s
 rw [zatH]
 refine ⟨rfl,rfl,(x,0),⟨hx, .refl _,rfl⟩,decide_eq_true ?_,(y,1),⟨hy, .refl _,rfl⟩,decide_eq_true ?_, .refl _, .rfl⟩
 · have e:(⟨#[45]⟩:ByteArray).size=1:=rfl
   show (zaaC x 0).size+1<=9223372036854775807; omega
 · have e:(⟨#[45]⟩:ByteArray).size=1:=rfl
   show (zaaC x 0++⟨#[45]⟩).size+(zaaC y 1).size<=9223372036854775807
   rw [ByteArray.size_append]; omega
theorem zatG (P:Nd->Prop)(a:Int)(x y:Nd)(hx:P x)(hy:P y)(s:(zaaC x 1++⟨#[38]⟩++zaaC y 2).size<=2000000):gTx4 (Orc.f (Orc.f (Orc.t Orc.z))) P a x y (zaaC x 1++⟨#[38]⟩++zaaC y 2):=by
 rw [ByteArray.size_append,ByteArray.size_append] at s
 rw [zatF]
 refine ⟨rfl,rfl,rfl,(x,1),⟨hx, .refl _,rfl⟩,decide_eq_true ?_,(y,2),⟨hy, .refl _,rfl⟩,decide_eq_true ?_, .refl _, .rfl⟩
 · have e:(⟨#[38]⟩:ByteArray).size=1:=rfl
   show (zaaC x 1).size+1<=9223372036854775807; omega
 · have e:(⟨#[38]⟩:ByteArray).size=1:=rfl
   show (zaaC x 1++⟨#[38]⟩).size+(zaaC y 2).size<=9223372036854775807
   rw [ByteArray.size_append]; omega
theorem zaty (P:Nd->Prop)(a:Int)(x y:Nd)(hx:P x)(hy:P y)(s:(zaaC x 4++⟨#[58,58]⟩++zaaC y 4).size<=2000000):gTx8 zayN P a x y (zaaC x 4++⟨#[58,58]⟩++zaaC y 4):=by
 rw [ByteArray.size_append,ByteArray.size_append] at s
 rw [zatx]
 refine ⟨rfl,rfl,rfl,rfl,rfl,rfl,rfl,(x,4),⟨hx, .refl _,rfl⟩,decide_eq_true ?_,(y,4),⟨hy, .refl _,rfl⟩,decide_eq_true ?_, .refl _, .rfl⟩
 · have e:(⟨#[58,58]⟩:ByteArray).size=2:=rfl
   show (zaaC x 4).size+2<=9223372036854775807; omega
 · have e:(⟨#[58,58]⟩:ByteArray).size=2:=rfl
   show (zaaC x 4++⟨#[58,58]⟩).size+(zaaC y 4).size<=9223372036854775807
   rw [ByteArray.size_append]; omega
theorem zatw (P:Nd->Prop)(a:Int)(x y:Nd)(hx:P x)(hy:P y)(s:(zaaC x 4++⟨#[46,46]⟩++zaaC y 4).size<=2000000):gTx9 zayM P a x y (zaaC x 4++⟨#[46,46]⟩++zaaC y 4):=by
 rw [ByteArray.size_append,ByteArray.size_append] at s
 rw [zatv]
 refine ⟨rfl,rfl,rfl,rfl,rfl,rfl,rfl,rfl,(x,4),⟨hx, .refl _,rfl⟩,decide_eq_true ?_,(y,4),⟨hy, .refl _,rfl⟩,decide_eq_true ?_, .refl _, .rfl⟩
 · have e:(⟨#[46,46]⟩:ByteArray).size=2:=rfl
   show (zaaC x 4).size+2<=9223372036854775807; omega
 · have e:(⟨#[46,46]⟩:ByteArray).size=2:=rfl
   show (zaaC x 4++⟨#[46,46]⟩).size+(zaaC y 4).size<=9223372036854775807
   rw [ByteArray.size_append]; omega
theorem zatE (P:Nd->Prop)(a:Int)(x:Nd)(hx:P x)(s:(⟨#[33]⟩++zaaC x 2).size<=2000000):gTx5 zayQ P a x (⟨#[33]⟩++zaaC x 2):=by
 rw [ByteArray.size_append] at s
 have e:(⟨#[33]⟩:ByteArray).size=1:=rfl
 rw [zatD]
 refine ⟨rfl,rfl,rfl,rfl,(x,2),⟨hx, .refl _,rfl⟩,decide_eq_true ?_, .refl _, .rfl⟩
 show 1+(zaaC x 2).size<=9223372036854775807; omega
theorem zatC (P:Nd->Prop)(a:Int)(x:Nd)(hx:P x)(s:(⟨#[58,58]⟩++zaaC x 4).size<=2000000):gTx6 zayP P a x (⟨#[58,58]⟩++zaaC x 4):=by
 rw [ByteArray.size_append] at s
 have e:(⟨#[58,58]⟩:ByteArray).size=2:=rfl
 rw [zatB]
 refine ⟨rfl,rfl,rfl,rfl,rfl,(x,4),⟨hx, .refl _,rfl⟩,decide_eq_true ?_, .refl _, .rfl⟩
 show 2+(zaaC x 4).size<=9223372036854775807; omega
theorem zatA (P:Nd->Prop)(a:Int)(x:Nd)(hx:P x)(s:(zaaC x 4++⟨#[58,58]⟩).size<=2000000):gTx7 zayO P a x (zaaC x 4++⟨#[58,58]⟩):=by
 rw [ByteArray.size_append] at s
 have e:(⟨#[58,58]⟩:ByteArray).size=2:=rfl
 rw [zatz]
 refine ⟨rfl,rfl,rfl,rfl,rfl,rfl,(x,4),⟨hx, .refl _,rfl⟩,decide_eq_true ?_, .refl _, .rfl⟩
 show (zaaC x 4).size+2<=9223372036854775807; omega
end
end Go.Proofs.YtpofhijgccocpaaGreatDoor
end
section
namespace Go.Proofs.YtpofhijgccocpaaGreatDoor
open Go.AS Go.TP
noncomputable section
attribute [local irreducible] runF in
set_option maxRecDepth 100000 in
theorem txFn {X:WX}(hX:X.Sound)(hp:X.px=X0){os:Orc}{k a m:Int}{t:ByteArray}{ks:List AV}{r:ByteArray}(g:gTx X os k a m t ks r):F fTextN [ndV k a m t ks] (s0 r):=F_ok hX hp (by kernel_rfl) (by kernel_rfl) (by kernel_rfl) g
attribute [local irreducible] runF in
set_option maxRecDepth 100000 in
theorem inFn {X:WX}(hX:X.Sound)(hp:X.px=X0){os:Orc}{a m:Int}{t:ByteArray}{ks:List AV}{r:ByteArray}(g:gIn X os a m t ks r):F zafy [ndV 10 a m t ks] (s0 r):=F_ok hX hp (by kernel_rfl) (by kernel_rfl) (by kernel_rfl) g
theorem zabF (n:Nd)(lv:Nat):(zabt n).size<=(zaaC n lv).size:=by
 rw [zaed]
 split
 · rw [ByteArray.size_append,ByteArray.size_append]; omega
 · exact Nat.le_refl _
attribute [local irreducible] runF in
set_option maxRecDepth 100000 in
theorem inC {a m:Int}{t:ByteArray}{ks:List Nd}{i r:ByteArray}(hr:r=t++zah9++i++zaeR)(hs:r.size<=2000000)(h:F zafy [ndV 10 a m t (encL ks)] (s0 i)):F fTextN [encP (.mk 10 a m t ks)] (s0 r):=by
 subst hr
 exact txFn (X:=XT0.add zafy (Sp.con [sp1e [ndV 10 a m t (encL ks)] (s0 i)])) (zaic.add (zahk h)) rfl (zatu a m t (encL ks) i hs)
attribute [local irreducible] runF in
set_option maxRecDepth 100000 in
theorem zaoC (n:Nd)(h:zaav n=true):(zabt n).size<=2000000->FTx n:=by
 refine zafU (P:=fun n=>(zabt n).size<=2000000->FTx n) ?_ ?_ ?_ ?_ ?_ n h
 · intro a t _ _
   show F fTextN [encP (.mk 1 a 0 t [])] (s0 (zabt (.mk 1 a 0 t [])))
   rw [zame]
   exact txFn zaic rfl (zats a 0 t [])
 · intro k a x y hk _ _ hx hy hs
   have two:∀ (s:Int) (i j:Nat),zafg (.mk k a 0 ByteArray.empty [x,y])=atS x i++sg s::atS y j->s≠1->(zabt (.mk k a 0 ByteArray.empty [x,y])=zaaC x i++zaoH s++zaaC y j)/\zajP x/\zajP y:=fun s i j ht h1=>by
     have e:=zahl ht h1
     rw [e,ByteArray.size_append,ByteArray.size_append] at hs
     have h1:=zabF x i
     have h2:=zabF y j
     exact ⟨e,brOf (hx (by omega)) (by omega),brOf (hy (by omega)) (by omega)⟩
   show F fTextN [ndV k a 0 ByteArray.empty (encL [x,y])] (s0 (zabt (.mk k a 0 ByteArray.empty [x,y])))
   rw [zalA]
   rcases hk with rfl | rfl | rfl | rfl | rfl
   · obtain ⟨e,bx,by'⟩:=two 7 0 1 rfl (by decide)
     rw [e] at hs ⊢; exact txFn zahe rfl (zatK zajP a x y bx by' hs)
   · obtain ⟨e,bx,by'⟩:=two 8 0 1 rfl (by decide)
     rw [e] at hs ⊢; exact txFn zahe rfl (zatI zajP a x y bx by' hs)
   · obtain ⟨e,bx,by'⟩:=two 9 1 2 rfl (by decide)
     rw [e] at hs ⊢; exact txFn zahe rfl (zatG zajP a x y bx by' hs)
   · obtain ⟨e,bx,by'⟩:=two 5 4 4 rfl (by decide)
     rw [e] at hs ⊢; exact txFn zahe rfl (zaty zajP a x y bx by' hs)
   · obtain ⟨e,bx,by'⟩:=two 6 4 4 rfl (by decide)
     rw [e] at hs ⊢; exact txFn zahe rfl (zatw zajP a x y bx by' hs)
 · intro k a x hk _ hx hs
   show F fTextN [ndV k a 0 ByteArray.empty (encL [x])] (s0 (zabt (.mk k a 0 ByteArray.empty [x])))
   rw [zagd]
   rcases hk with rfl | rfl | rfl
   · rw [zaoB] at hs ⊢
     have hs':=hs
     rw [ByteArray.size_append] at hs'
     have h1:=zabF x 2
     exact txFn zahe rfl (zatE zajP a x (brOf (hx (by omega)) (by omega)) hs)
   · rw [zaoA] at hs ⊢
     have hs':=hs
     rw [ByteArray.size_append] at hs'
     have h1:=zabF x 4
     exact txFn zahe rfl (zatC zajP a x (brOf (hx (by omega)) (by omega)) hs)
   · rw [zaoz] at hs ⊢
     have hs':=hs
     rw [ByteArray.size_append] at hs'
     have h1:=zabF x 4
     exact txFn zahe rfl (zatA zajP a x (brOf (hx (by omega)) (by omega)) hs)
 · intro a t ht hs
   exact inC (zaka ht) hs (inFn zaic rfl (zau3 a 0 t _ ht))
 · intro a n t x hn _ hx hs
   rcases hn with ⟨h1,h2⟩ | ⟨h1,h2,h3⟩
   · have e:=zak (a:=a) (n:=n) (x:=x) h1
     have hs':=hs
     rw [e,ByteArray.size_append,ByteArray.size_append,ByteArray.size_append] at hs'
     refine inC e hs ?_
     rw [zagd]
     exact inFn (X:=XT0.add fTextN (Sp.con [sp1e [encP x] (s0 (zabt x))])) (zaic.add (zahk (hx (by omega)))) rfl (zau1 a n t x (zabt x) h1)
   · have e:=zaj9 (a:=a) (n:=n) (x:=x) h1
     have hs':=hs
     rw [e] at hs'
     simp only [ByteArray.size_append] at hs'
     refine inC e hs ?_
     rw [zagd]
     exact inFn (X:=XT0.add fTextN (Sp.con [sp1e [encP x] (s0 (zabt x))])) (zaic.add (zahk (hx (by omega)))) rfl (zauZ a n t x (zabt x) h1 h2 h3 (by simp only [ByteArray.size_append]; omega))
theorem zaw6 (n:Nd)(s:ByteArray):gPr (Orc.s Orc.z Orc.z) n true s s:=by
 rw [zaw5]
 exact ⟨(),⟨trivial, .refl _,rfl⟩,fun h=>(by cases h),fun _=>⟨(),⟨trivial, .refl _,rfl⟩, .refl _, .rfl⟩⟩
attribute [local irreducible] runF in
set_option maxRecDepth 100000 in
theorem zapt (n:Nd)(h:zaav n=true)(hf:zacX n)(hs:(zabt n).size<=2000000):F zag4 [encP n] (s0 (zabt n)):=by
 have h1:=zahr n hf
 have h1:F zacJ [encP n] (b0 (zaav n)):=h1
 rw [h] at h1
 exact F_ok (X:=(XB.add zacJ (Sp.con [sp1e [encP n] (b0 true)])).add fTextN (Sp.con [sp1e [encP n] (s0 (zabt n))])) ((zabg.add (zahk h1)).add (zahk (zaoC n h hs))) rfl (by kernel_rfl) (by kernel_rfl) (by kernel_rfl) (zaw6 n (zabt n))
attribute [local irreducible] runF in
set_option maxRecDepth 100000 in
theorem zapu (n:Nd)(h:zaav n=false)(hf:zacX n):F zag4 [encP n] (s0 ByteArray.empty):=by
 have h1:F zacJ [encP n] (b0 (zaav n)):=zahr n hf
 rw [h] at h1
 exact F_ok (X:=XB.add zacJ (Sp.con [sp1e [encP n] (b0 false)])) (zabg.add (zahk h1)) rfl (by kernel_rfl) (by kernel_rfl) (by kernel_rfl) (show gPrN (Orc.t Orc.z) n by rw [zaul]; exact ⟨(),⟨trivial, .refl _,rfl⟩,rfl, .refl _, .rfl⟩)
end
end Go.Proofs.YtpofhijgccocpaaGreatDoor
end
section
namespace Go.Proofs.YtpofhijgccocpaaGreatDoor
open Go.AS Go.TP
noncomputable section
abbrev fYPr:Nat:=18
abbrev zan7:Nat:=49
abbrev zav8:Nat:=50
def gYD1 (os:Orc)(n:Int)(r:ByteArray):Prop:=gF XB [zan7] zan7 os [i0 n] (s0 r)
def gYD2 (os:Orc)(n q:Int)(s r:ByteArray):Prop:=gF (XB.add zan7 (Sp.con [sp1e [i0 q] (s0 s)])) [zan7] zan7 os [i0 n] (s0 r)
def gYL (os:Orc)(k a m:Int)(t:ByteArray)(vs:List AV)(r:Int):Prop:=gF XB [zav8] zav8 os [rgV k a m t vs] (i0 r)
abbrev spYL:Sp := .pure NV (fun _=>True) (fun v=>[rgV v.k v.a v.m v.t v.ks]) (fun v=>i0 ((levelK v.k:Int)+1))
abbrev spYP (ns:List AV)(ks:List ((Int × Int) × ByteArray)):Sp:=⟨(Int × Int) × ByteArray,fun q=>q∈ks,fun q=>[tS ns.length,i0 q.1.1,i0 q.1.2],fun _=>rowH ns,fun q=>⟨s0 q.2,rowH ns,[]⟩⟩
def XYP (ns:List AV)(ks:List ((Int × Int) × ByteArray)):WX:=(((XB.add zav8 (Sp.con [spYL])).add fYPr (Sp.con [spYP ns ks])).ask [fYPr]).askAt fYPr [14,15,57,58,64,65,73,74,80,81,89,90,96,97,105,106,114,115,123,124,132,133,139,140,148,149,155,156,29,30]
def XYC (ns:List AV)(ks:List ((Int × Int) × ByteArray))(t:ByteArray)(ar m:Int)(b:Bool)(d:ByteArray):WX:=((XYP ns ks).add zaa9 (Sp.con [sp1e [s0 t] (.tup [i0 ar,b0 b])])).add zan7 (Sp.con [sp1e [i0 m] (s0 d)])
def gYP (X:WX)(os:Orc)(ns:List AV)(p tg:Int)(r:ByteArray):Prop:=runF X 12 fYPr (fn fYPr) (code fYPr) os 0 [] [tS ns.length,i0 p,i0 tg] (rowH ns) ⟨s0 r,rowH ns,[]⟩
def gYP1 (os:Orc)(ns:List AV)(ks:List ((Int × Int) × ByteArray))(p tg:Int)(r:ByteArray):Prop:=gYP (XYP ns ks) os ns p tg r
def gYP2 (os:Orc)(ns:List AV)(ks:List ((Int × Int) × ByteArray))(p tg:Int)(r:ByteArray):Prop:=gYP (XYP ns ks) os ns p tg r
def gYP3 (os:Orc)(ns:List AV)(ks:List ((Int × Int) × ByteArray))(p tg:Int)(r:ByteArray):Prop:=gYP (XYP ns ks) os ns p tg r
def gYP4 (os:Orc)(ns:List AV)(ks:List ((Int × Int) × ByteArray))(p tg:Int)(r:ByteArray):Prop:=gYP (XYP ns ks) os ns p tg r
def gYP8 (os:Orc)(ns:List AV)(ks:List ((Int × Int) × ByteArray))(p tg:Int)(r:ByteArray):Prop:=gYP (XYP ns ks) os ns p tg r
def gYP9 (os:Orc)(ns:List AV)(ks:List ((Int × Int) × ByteArray))(p tg:Int)(r:ByteArray):Prop:=gYP (XYP ns ks) os ns p tg r
def gYP5 (os:Orc)(ns:List AV)(ks:List ((Int × Int) × ByteArray))(p tg:Int)(r:ByteArray):Prop:=gYP (XYP ns ks) os ns p tg r
def gYP6 (os:Orc)(ns:List AV)(ks:List ((Int × Int) × ByteArray))(p tg:Int)(r:ByteArray):Prop:=gYP (XYP ns ks) os ns p tg r
def gYP7 (os:Orc)(ns:List AV)(ks:List ((Int × Int) × ByteArray))(p tg:Int)(r:ByteArray):Prop:=gYP (XYP ns ks) os ns p tg r
def gYPA (os:Orc)(ns:List AV)(ks:List ((Int × Int) × ByteArray))(p tg:Int)(t:ByteArray)(ar m:Int)(d r:ByteArray):Prop:=gYP (XYC ns ks t ar m false d) os ns p tg r
def gYPB (os:Orc)(ns:List AV)(ks:List ((Int × Int) × ByteArray))(p tg:Int)(t:ByteArray)(ar m:Int)(d r:ByteArray):Prop:=gYP (XYC ns ks t ar m false d) os ns p tg r
def gYPC (os:Orc)(ns:List AV)(ks:List ((Int × Int) × ByteArray))(p tg:Int)(t:ByteArray)(ar m:Int)(d r:ByteArray):Prop:=gYP (XYC ns ks t ar m true d) os ns p tg r
end
end Go.Proofs.YtpofhijgccocpaaGreatDoor
end
section
namespace Go.Proofs.YtpofhijgccocpaaGreatDoor
open Go Go.AS Go.TP
theorem zatl (n:Int)(r:ByteArray):gYD1 (Orc.t Orc.z) n r=(decide (n<10)=true/\inR IntKind.i64 ((48:Int)+n)=true/\Yt (Yt (Wk (s0 ⟨⟨[UInt8.ofNat (Int.toNat (IntKind.wrap IntKind.u8 ((48:Int)+n)))]⟩⟩) (s0 r)/\SameH (hpL []) (hpL [])))):=by kernel_rfl
theorem zatk (n q:Int)(s r:ByteArray):gYD2 (Orc.f Orc.z) n q s r=(let z1:=[UInt8.ofNat (Int.toNat (IntKind.wrap IntKind.u8 ((48:Int)+Int.tmod n (10:Int))))]; decide (n<10)=false/\(inR IntKind.i64 (Int.tdiv n (10:Int))&&true)=true/\∃ (_:Unit),(True/\Wks [i0 (Int.tdiv n (10:Int))] [i0 q]/\hpL []=hpL [])/\Yt (inR IntKind.i64 ((48:Int)+Int.tmod n (10:Int))=true/\Yt (Yt (decide (ByteArray.size s+ByteArray.size { data:={ toList:=z1 } }<=9223372036854775807)=true/\Wk (s0 (s++{ data:={ toList:=z1 } })) (s0 r)/\SameH (hpL []) (hpL []))))):=by kernel_rfl
def ogYL:Orc:=Orc.s (Orc.t Orc.z) (Orc.s Orc.z (Orc.s Orc.z (Orc.s Orc.z (Orc.s (Orc.t Orc.z) (Orc.s (Orc.t Orc.z) (Orc.s (Orc.t Orc.z) (Orc.s Orc.z Orc.z)))))))
theorem zawP (k a m:Int)(t:ByteArray)(vs:List AV)(r:Int):gYL ogYL k a m t vs r=(((k==2)=true->Yt (Wk (i0 1) (i0 r)/\SameH (hpL []) (hpL [])))/\((k==2)=false->((k==3)=true->Wk (i0 1) (i0 r)/\SameH (hpL []) (hpL []))/\((k==3)=false->((k==4)=true->Wk (i0 2) (i0 r)/\SameH (hpL []) (hpL []))/\((k==4)=false->((k==5)=true->Wk (i0 3) (i0 r)/\SameH (hpL []) (hpL []))/\((k==5)=false->((k==6)=true->Yt (Wk (i0 4) (i0 r)/\SameH (hpL []) (hpL [])))/\((k==6)=false->((k==7)=true->Yt (Wk (i0 4) (i0 r)/\SameH (hpL []) (hpL [])))/\((k==7)=false->((k==8)=true->Yt (Wk (i0 4) (i0 r)/\SameH (hpL []) (hpL [])))/\((k==8)=false->((k==9)=true->Wk (i0 4) (i0 r)/\SameH (hpL []) (hpL []))/\((k==9)=false->Wk (i0 5) (i0 r)/\SameH (hpL []) (hpL [])))))))))):=by kernel_rfl
theorem zati (ns:List AV)(ks:List ((Int × Int) × ByteArray))(p tg:Int)(r:ByteArray):gYP1 (Orc.t (Orc.s Orc.z Orc.z)) ns ks p tg r=(let z1:=(List.getD ns (0+Int.toNat p) uu); let z2:=(hpL [eR 1048577 [0,0] 5 ns]); (decide ((0:Int)<=p/\p<(↑(List.length ns):Int))&&(true&&Nat.beq 5 5))=true/\(true&&(Nat.ble (0+Int.toNat p+1) (List.length ns)&&zaak (Cx.B (cxV (XYP ns ks) 12 fYPr)) shN 33 z1))=true/\(intA (nthA 0 z1)==1)=true/\∃ (i1:NV),(True/\Wks [AV.agg [i0 (intA (nthA 0 z1)),i0 (intA (nthA 1 z1)),i0 (intA (nthA 2 z1)),s0 (strA (nthA 3 z1)),AV.lst false 1 (elsA (nthA 4 z1))]] [AV.agg [i0 (NV.k i1),i0 (NV.a i1),i0 (NV.m i1),s0 (NV.t i1),AV.lst false 1 (NV.ks i1)]]/\hpL []=hpL [])/\(decide ((↑(levelK (NV.k i1)):Int)+1<tg)=true->decide (1+ByteArray.size (strA (nthA 3 z1))<=9223372036854775807)=true/\decide (ByteArray.size (⟨⟨[(40:UInt8)]⟩⟩++strA (nthA 3 z1))+1<=9223372036854775807)=true/\Wk (s0 (⟨⟨[(40:UInt8)]⟩⟩++strA (nthA 3 z1)++⟨⟨[(41:UInt8)]⟩⟩)) (s0 r)/\SameH z2 z2)/\(decide ((↑(levelK (NV.k i1)):Int)+1<tg)=false->Wk (s0 (strA (nthA 3 z1))) (s0 r)/\SameH z2 z2)):=by kernel_rfl
def zayI:Orc:=Orc.f (Orc.t (Orc.s Orc.z Orc.z))
theorem zatg (ns:List AV)(ks:List ((Int × Int) × ByteArray))(p tg:Int)(r:ByteArray):gYP2 zayI ns ks p tg r=(let z1:=(List.getD ns (0+Int.toNat p) uu); let z2:=[eR 1048577 [0,0] 5 ns]; let z3:=AV.agg [AV.slc 1048577 [0,0] 0 (List.length ns)]; let z4:=(elsA (nthA 4 z1)); let z5:=(Cx.B (cxV (XYP ns ks) 12 fYPr)); let z6:=[(43:UInt8)]; (decide ((0:Int)<=p/\p<(↑(List.length ns):Int))&&(true&&Nat.beq 5 5))=true/\(true&&(Nat.ble (0+Int.toNat p+1) (List.length ns)&&zaak z5 shN 33 z1))=true/\(intA (nthA 0 z1)==1)=false/\(intA (nthA 0 z1)==2)=true/\(decide ((0:Int)<=(0:Int)/\(0:Int)<(↑(List.length z4):Int))&&(Nat.beq 1 1&&(zaak z5 shN 3 (List.getD z4 0 uu)&&(false||true))))=true/\∃ (i1:(Int × Int) × ByteArray),(i1∈ks/\Wks [z3,i0 (intA (List.getD z4 0 uu)),i0 1] [z3,i0 (Prod.fst (Prod.fst i1)),i0 (Prod.snd (Prod.fst i1))]/\hpL z2=hpL z2)/\decide (ByteArray.size (Prod.snd i1)+1<=9223372036854775807)=true/\(decide ((0:Int)<=(1:Int)/\(1:Int)<(↑(List.length z4):Int))&&(Nat.beq 1 1&&(zaak z5 shN 3 (List.getD z4 1 uu)&&(false||true))))=true/\∃ (i2:(Int × Int) × ByteArray),(i2∈ks/\Wks [z3,i0 (intA (List.getD z4 1 uu)),i0 2] [z3,i0 (Prod.fst (Prod.fst i2)),i0 (Prod.snd (Prod.fst i2))]/\hpL z2=hpL z2)/\decide (ByteArray.size (Prod.snd i1++{ data:={ toList:=z6 } })+ByteArray.size (Prod.snd i2)<=9223372036854775807)=true/\∃ (i3:NV),(True/\Wks [AV.agg [i0 (intA (nthA 0 z1)),i0 (intA (nthA 1 z1)),i0 (intA (nthA 2 z1)),s0 (strA (nthA 3 z1)),AV.lst false 1 z4]] [AV.agg [i0 (NV.k i3),i0 (NV.a i3),i0 (NV.m i3),s0 (NV.t i3),AV.lst false 1 (NV.ks i3)]]/\hpL []=hpL [])/\(decide ((↑(levelK (NV.k i3)):Int)+1<tg)=true->decide (1+ByteArray.size (Prod.snd i1++{ data:={ toList:=z6 } }++Prod.snd i2)<=9223372036854775807)=true/\decide (ByteArray.size (⟨⟨[(40:UInt8)]⟩⟩++(Prod.snd i1++{ data:={ toList:=z6 } }++Prod.snd i2))+1<=9223372036854775807)=true/\Wk (s0 (⟨⟨[(40:UInt8)]⟩⟩++(Prod.snd i1++{ data:={ toList:=z6 } }++Prod.snd i2)++⟨⟨[(41:UInt8)]⟩⟩)) (s0 r)/\SameH (hpL z2) (hpL z2))/\(decide ((↑(levelK (NV.k i3)):Int)+1<tg)=false->Wk (s0 (Prod.snd i1++{ data:={ toList:=z6 } }++Prod.snd i2)) (s0 r)/\SameH (hpL z2) (hpL z2))):=by kernel_rfl
def zayH:Orc:=Orc.f (Orc.f (Orc.t (Orc.s Orc.z Orc.z)))
theorem zate (ns:List AV)(ks:List ((Int × Int) × ByteArray))(p tg:Int)(r:ByteArray):gYP3 zayH ns ks p tg r=(let z1:=(List.getD ns (0+Int.toNat p) uu); let z2:=[eR 1048577 [0,0] 5 ns]; let z3:=AV.agg [AV.slc 1048577 [0,0] 0 (List.length ns)]; let z4:=(elsA (nthA 4 z1)); let z5:=(Cx.B (cxV (XYP ns ks) 12 fYPr)); let z6:=[(45:UInt8)]; (decide ((0:Int)<=p/\p<(↑(List.length ns):Int))&&(true&&Nat.beq 5 5))=true/\(true&&(Nat.ble (0+Int.toNat p+1) (List.length ns)&&zaak z5 shN 33 z1))=true/\(intA (nthA 0 z1)==1)=false/\(intA (nthA 0 z1)==2)=false/\(intA (nthA 0 z1)==3)=true/\(decide ((0:Int)<=(0:Int)/\(0:Int)<(↑(List.length z4):Int))&&(Nat.beq 1 1&&(zaak z5 shN 3 (List.getD z4 0 uu)&&(false||true))))=true/\∃ (i1:(Int × Int) × ByteArray),(i1∈ks/\Wks [z3,i0 (intA (List.getD z4 0 uu)),i0 1] [z3,i0 (Prod.fst (Prod.fst i1)),i0 (Prod.snd (Prod.fst i1))]/\hpL z2=hpL z2)/\decide (ByteArray.size (Prod.snd i1)+1<=9223372036854775807)=true/\(decide ((0:Int)<=(1:Int)/\(1:Int)<(↑(List.length z4):Int))&&(Nat.beq 1 1&&(zaak z5 shN 3 (List.getD z4 1 uu)&&(false||true))))=true/\∃ (i2:(Int × Int) × ByteArray),(i2∈ks/\Wks [z3,i0 (intA (List.getD z4 1 uu)),i0 2] [z3,i0 (Prod.fst (Prod.fst i2)),i0 (Prod.snd (Prod.fst i2))]/\hpL z2=hpL z2)/\decide (ByteArray.size (Prod.snd i1++{ data:={ toList:=z6 } })+ByteArray.size (Prod.snd i2)<=9223372036854775807)=true/\∃ (i3:NV),(True/\Wks [AV.agg [i0 (intA (nthA 0 z1)),i0 (intA (nthA 1 z1)),i0 (intA (nthA 2 z1)),s0 (strA (nthA 3 z1)),AV.lst false 1 z4]] [AV.agg [i0 (NV.k i3),i0 (NV.a i3),i0 (NV.m i3),s0 (NV.t i3),AV.lst false 1 (NV.ks i3)]]/\hpL []=hpL [])/\(decide ((↑(levelK (NV.k i3)):Int)+1<tg)=true->decide (1+ByteArray.size (Prod.snd i1++{ data:={ toList:=z6 } }++Prod.snd i2)<=9223372036854775807)=true/\decide (ByteArray.size (⟨⟨[(40:UInt8)]⟩⟩++(Prod.snd i1++{ data:={ toList:=z6 } }++Prod.snd i2))+1<=9223372036854775807)=true/\Wk (s0 (⟨⟨[(40:UInt8)]⟩⟩++(Prod.snd i1++{ data:={ toList:=z6 } }++Prod.snd i2)++⟨⟨[(41:UInt8)]⟩⟩)) (s0 r)/\SameH (hpL z2) (hpL z2))/\(decide ((↑(levelK (NV.k i3)):Int)+1<tg)=false->Wk (s0 (Prod.snd i1++{ data:={ toList:=z6 } }++Prod.snd i2)) (s0 r)/\SameH (hpL z2) (hpL z2))):=by kernel_rfl
def zayG:Orc:=Orc.f (Orc.f (Orc.f (Orc.t (Orc.s Orc.z Orc.z))))
theorem zatc (ns:List AV)(ks:List ((Int × Int) × ByteArray))(p tg:Int)(r:ByteArray):gYP4 zayG ns ks p tg r=(let z1:=(List.getD ns (0+Int.toNat p) uu); let z2:=[eR 1048577 [0,0] 5 ns]; let z3:=AV.agg [AV.slc 1048577 [0,0] 0 (List.length ns)]; let z4:=(elsA (nthA 4 z1)); let z5:=(Cx.B (cxV (XYP ns ks) 12 fYPr)); let z6:=[(38:UInt8)]; (decide ((0:Int)<=p/\p<(↑(List.length ns):Int))&&(true&&Nat.beq 5 5))=true/\(true&&(Nat.ble (0+Int.toNat p+1) (List.length ns)&&zaak z5 shN 33 z1))=true/\(intA (nthA 0 z1)==1)=false/\(intA (nthA 0 z1)==2)=false/\(intA (nthA 0 z1)==3)=false/\(intA (nthA 0 z1)==4)=true/\(decide ((0:Int)<=(0:Int)/\(0:Int)<(↑(List.length z4):Int))&&(Nat.beq 1 1&&(zaak z5 shN 3 (List.getD z4 0 uu)&&(false||true))))=true/\∃ (i1:(Int × Int) × ByteArray),(i1∈ks/\Wks [z3,i0 (intA (List.getD z4 0 uu)),i0 2] [z3,i0 (Prod.fst (Prod.fst i1)),i0 (Prod.snd (Prod.fst i1))]/\hpL z2=hpL z2)/\decide (ByteArray.size (Prod.snd i1)+1<=9223372036854775807)=true/\(decide ((0:Int)<=(1:Int)/\(1:Int)<(↑(List.length z4):Int))&&(Nat.beq 1 1&&(zaak z5 shN 3 (List.getD z4 1 uu)&&(false||true))))=true/\∃ (i2:(Int × Int) × ByteArray),(i2∈ks/\Wks [z3,i0 (intA (List.getD z4 1 uu)),i0 3] [z3,i0 (Prod.fst (Prod.fst i2)),i0 (Prod.snd (Prod.fst i2))]/\hpL z2=hpL z2)/\decide (ByteArray.size (Prod.snd i1++{ data:={ toList:=z6 } })+ByteArray.size (Prod.snd i2)<=9223372036854775807)=true/\∃ (i3:NV),(True/\Wks [AV.agg [i0 (intA (nthA 0 z1)),i0 (intA (nthA 1 z1)),i0 (intA (nthA 2 z1)),s0 (strA (nthA 3 z1)),AV.lst false 1 z4]] [AV.agg [i0 (NV.k i3),i0 (NV.a i3),i0 (NV.m i3),s0 (NV.t i3),AV.lst false 1 (NV.ks i3)]]/\hpL []=hpL [])/\(decide ((↑(levelK (NV.k i3)):Int)+1<tg)=true->decide (1+ByteArray.size (Prod.snd i1++{ data:={ toList:=z6 } }++Prod.snd i2)<=9223372036854775807)=true/\decide (ByteArray.size (⟨⟨[(40:UInt8)]⟩⟩++(Prod.snd i1++{ data:={ toList:=z6 } }++Prod.snd i2))+1<=9223372036854775807)=true/\Wk (s0 (⟨⟨[(40:UInt8)]⟩⟩++(Prod.snd i1++{ data:={ toList:=z6 } }++Prod.snd i2)++⟨⟨[(41:UInt8)]⟩⟩)) (s0 r)/\SameH (hpL z2) (hpL z2))/\(decide ((↑(levelK (NV.k i3)):Int)+1<tg)=false->Wk (s0 (Prod.snd i1++{ data:={ toList:=z6 } }++Prod.snd i2)) (s0 r)/\SameH (hpL z2) (hpL z2))):=by kernel_rfl
def zayF:Orc:=HF (Orc.t (Orc.s Orc.z Orc.z))
theorem zata (ns:List AV)(ks:List ((Int × Int) × ByteArray))(p tg:Int)(r:ByteArray):gYP5 zayF ns ks p tg r=(let z1:=(List.getD ns (0+Int.toNat p) uu); let z2:=[eR 1048577 [0,0] 5 ns]; let z3:=AV.agg [AV.slc 1048577 [0,0] 0 (List.length ns)]; let z4:=(elsA (nthA 4 z1)); let z5:=[(33:UInt8)]; (decide ((0:Int)<=p/\p<(↑(List.length ns):Int))&&(true&&Nat.beq 5 5))=true/\(true&&(Nat.ble (0+Int.toNat p+1) (List.length ns)&&zaak (Cx.B (cxV (XYP ns ks) 12 fYPr)) shN 33 z1))=true/\(intA (nthA 0 z1)==1)=false/\(intA (nthA 0 z1)==2)=false/\(intA (nthA 0 z1)==3)=false/\(intA (nthA 0 z1)==4)=false/\(intA (nthA 0 z1)==5)=true/\(decide ((0:Int)<=(0:Int)/\(0:Int)<(↑(List.length z4):Int))&&(Nat.beq 1 1&&(zaak (Cx.B (cxV (XYP ns ks) 12 fYPr)) shN 3 (List.getD z4 0 uu)&&(false||true))))=true/\∃ (i1:(Int × Int) × ByteArray),(i1∈ks/\Wks [z3,i0 (intA (List.getD z4 0 uu)),i0 3] [z3,i0 (Prod.fst (Prod.fst i1)),i0 (Prod.snd (Prod.fst i1))]/\hpL z2=hpL z2)/\decide (1+ByteArray.size (Prod.snd i1)<=9223372036854775807)=true/\∃ (i2:NV),(True/\Wks [AV.agg [i0 (intA (nthA 0 z1)),i0 (intA (nthA 1 z1)),i0 (intA (nthA 2 z1)),s0 (strA (nthA 3 z1)),AV.lst false 1 z4]] [AV.agg [i0 (NV.k i2),i0 (NV.a i2),i0 (NV.m i2),s0 (NV.t i2),AV.lst false 1 (NV.ks i2)]]/\hpL []=hpL [])/\(decide ((↑(levelK (NV.k i2)):Int)+1<tg)=true->decide (1+ByteArray.size ({ data:={ toList:=z5 } }++Prod.snd i1)<=9223372036854775807)=true/\decide (ByteArray.size (⟨⟨[(40:UInt8)]⟩⟩++({ data:={ toList:=z5 } }++Prod.snd i1))+1<=9223372036854775807)=true/\Wk (s0 (⟨⟨[(40:UInt8)]⟩⟩++({ data:={ toList:=z5 } }++Prod.snd i1)++⟨⟨[(41:UInt8)]⟩⟩)) (s0 r)/\SameH (hpL z2) (hpL z2))/\(decide ((↑(levelK (NV.k i2)):Int)+1<tg)=false->Wk (s0 ({ data:={ toList:=z5 } }++Prod.snd i1)) (s0 r)/\SameH (hpL z2) (hpL z2))):=by kernel_rfl
def zayE:Orc:=HF (Orc.f (Orc.t (Orc.s Orc.z Orc.z)))
theorem zas9 (ns:List AV)(ks:List ((Int × Int) × ByteArray))(p tg:Int)(r:ByteArray):gYP6 zayE ns ks p tg r=(let z1:=(List.getD ns (0+Int.toNat p) uu); let z2:=[eR 1048577 [0,0] 5 ns]; let z3:=AV.agg [AV.slc 1048577 [0,0] 0 (List.length ns)]; let z4:=(elsA (nthA 4 z1)); (decide ((0:Int)<=p/\p<(↑(List.length ns):Int))&&(true&&Nat.beq 5 5))=true/\(true&&(Nat.ble (0+Int.toNat p+1) (List.length ns)&&zaak (Cx.B (cxV (XYP ns ks) 12 fYPr)) shN 33 z1))=true/\(intA (nthA 0 z1)==1)=false/\(intA (nthA 0 z1)==2)=false/\(intA (nthA 0 z1)==3)=false/\(intA (nthA 0 z1)==4)=false/\(intA (nthA 0 z1)==5)=false/\(intA (nthA 0 z1)==6)=true/\(decide ((0:Int)<=(0:Int)/\(0:Int)<(↑(List.length z4):Int))&&(Nat.beq 1 1&&(zaak (Cx.B (cxV (XYP ns ks) 12 fYPr)) shN 3 (List.getD z4 0 uu)&&(false||true))))=true/\∃ (i1:(Int × Int) × ByteArray),(i1∈ks/\Wks [z3,i0 (intA (List.getD z4 0 uu)),i0 5] [z3,i0 (Prod.fst (Prod.fst i1)),i0 (Prod.snd (Prod.fst i1))]/\hpL z2=hpL z2)/\decide (2+ByteArray.size (Prod.snd i1)<=9223372036854775807)=true/\∃ (i2:NV),(True/\Wks [AV.agg [i0 (intA (nthA 0 z1)),i0 (intA (nthA 1 z1)),i0 (intA (nthA 2 z1)),s0 (strA (nthA 3 z1)),AV.lst false 1 z4]] [AV.agg [i0 (NV.k i2),i0 (NV.a i2),i0 (NV.m i2),s0 (NV.t i2),AV.lst false 1 (NV.ks i2)]]/\hpL []=hpL [])/\(decide ((↑(levelK (NV.k i2)):Int)+1<tg)=true->decide (1+ByteArray.size (bCC++Prod.snd i1)<=9223372036854775807)=true/\decide (ByteArray.size (⟨⟨[(40:UInt8)]⟩⟩++(bCC++Prod.snd i1))+1<=9223372036854775807)=true/\Wk (s0 (⟨⟨[(40:UInt8)]⟩⟩++(bCC++Prod.snd i1)++⟨⟨[(41:UInt8)]⟩⟩)) (s0 r)/\SameH (hpL z2) (hpL z2))/\(decide ((↑(levelK (NV.k i2)):Int)+1<tg)=false->Wk (s0 (bCC++Prod.snd i1)) (s0 r)/\SameH (hpL z2) (hpL z2))):=by kernel_rfl
def zayD:Orc:=HF (Orc.f (Orc.f (Orc.t (Orc.s Orc.z Orc.z))))
theorem zas7 (ns:List AV)(ks:List ((Int × Int) × ByteArray))(p tg:Int)(r:ByteArray):gYP7 zayD ns ks p tg r=(let z1:=(List.getD ns (0+Int.toNat p) uu); let z2:=[eR 1048577 [0,0] 5 ns]; let z3:=AV.agg [AV.slc 1048577 [0,0] 0 (List.length ns)]; let z4:=(elsA (nthA 4 z1)); (decide ((0:Int)<=p/\p<(↑(List.length ns):Int))&&(true&&Nat.beq 5 5))=true/\(true&&(Nat.ble (0+Int.toNat p+1) (List.length ns)&&zaak (Cx.B (cxV (XYP ns ks) 12 fYPr)) shN 33 z1))=true/\(intA (nthA 0 z1)==1)=false/\(intA (nthA 0 z1)==2)=false/\(intA (nthA 0 z1)==3)=false/\(intA (nthA 0 z1)==4)=false/\(intA (nthA 0 z1)==5)=false/\(intA (nthA 0 z1)==6)=false/\(intA (nthA 0 z1)==7)=true/\(decide ((0:Int)<=(0:Int)/\(0:Int)<(↑(List.length z4):Int))&&(Nat.beq 1 1&&(zaak (Cx.B (cxV (XYP ns ks) 12 fYPr)) shN 3 (List.getD z4 0 uu)&&(false||true))))=true/\∃ (i1:(Int × Int) × ByteArray),(i1∈ks/\Wks [z3,i0 (intA (List.getD z4 0 uu)),i0 5] [z3,i0 (Prod.fst (Prod.fst i1)),i0 (Prod.snd (Prod.fst i1))]/\hpL z2=hpL z2)/\decide (ByteArray.size (Prod.snd i1)+2<=9223372036854775807)=true/\∃ (i2:NV),(True/\Wks [AV.agg [i0 (intA (nthA 0 z1)),i0 (intA (nthA 1 z1)),i0 (intA (nthA 2 z1)),s0 (strA (nthA 3 z1)),AV.lst false 1 z4]] [AV.agg [i0 (NV.k i2),i0 (NV.a i2),i0 (NV.m i2),s0 (NV.t i2),AV.lst false 1 (NV.ks i2)]]/\hpL []=hpL [])/\(decide ((↑(levelK (NV.k i2)):Int)+1<tg)=true->decide (1+ByteArray.size (Prod.snd i1++bCC)<=9223372036854775807)=true/\decide (ByteArray.size (⟨⟨[(40:UInt8)]⟩⟩++(Prod.snd i1++bCC))+1<=9223372036854775807)=true/\Wk (s0 (⟨⟨[(40:UInt8)]⟩⟩++(Prod.snd i1++bCC)++⟨⟨[(41:UInt8)]⟩⟩)) (s0 r)/\SameH (hpL z2) (hpL z2))/\(decide ((↑(levelK (NV.k i2)):Int)+1<tg)=false->Wk (s0 (Prod.snd i1++bCC)) (s0 r)/\SameH (hpL z2) (hpL z2))):=by kernel_rfl
def zayC:Orc:=HF (Orc.f (Orc.f (Orc.f (Orc.t (Orc.s Orc.z Orc.z)))))
theorem zas5 (ns:List AV)(ks:List ((Int × Int) × ByteArray))(p tg:Int)(r:ByteArray):gYP8 zayC ns ks p tg r=(let z1:=(List.getD ns (0+Int.toNat p) uu); let z2:=[eR 1048577 [0,0] 5 ns]; let z3:=AV.agg [AV.slc 1048577 [0,0] 0 (List.length ns)]; let z4:=(elsA (nthA 4 z1)); let z5:=(Cx.B (cxV (XYP ns ks) 12 fYPr)); (decide ((0:Int)<=p/\p<(↑(List.length ns):Int))&&(true&&Nat.beq 5 5))=true/\(true&&(Nat.ble (0+Int.toNat p+1) (List.length ns)&&zaak z5 shN 33 z1))=true/\(intA (nthA 0 z1)==1)=false/\(intA (nthA 0 z1)==2)=false/\(intA (nthA 0 z1)==3)=false/\(intA (nthA 0 z1)==4)=false/\(intA (nthA 0 z1)==5)=false/\(intA (nthA 0 z1)==6)=false/\(intA (nthA 0 z1)==7)=false/\(intA (nthA 0 z1)==8)=true/\(decide ((0:Int)<=(0:Int)/\(0:Int)<(↑(List.length z4):Int))&&(Nat.beq 1 1&&(zaak z5 shN 3 (List.getD z4 0 uu)&&(false||true))))=true/\∃ (i1:(Int × Int) × ByteArray),(i1∈ks/\Wks [z3,i0 (intA (List.getD z4 0 uu)),i0 5] [z3,i0 (Prod.fst (Prod.fst i1)),i0 (Prod.snd (Prod.fst i1))]/\hpL z2=hpL z2)/\decide (ByteArray.size (Prod.snd i1)+2<=9223372036854775807)=true/\(decide ((0:Int)<=(1:Int)/\(1:Int)<(↑(List.length z4):Int))&&(Nat.beq 1 1&&(zaak z5 shN 3 (List.getD z4 1 uu)&&(false||true))))=true/\∃ (i2:(Int × Int) × ByteArray),(i2∈ks/\Wks [z3,i0 (intA (List.getD z4 1 uu)),i0 5] [z3,i0 (Prod.fst (Prod.fst i2)),i0 (Prod.snd (Prod.fst i2))]/\hpL z2=hpL z2)/\decide (ByteArray.size (Prod.snd i1++bCC)+ByteArray.size (Prod.snd i2)<=9223372036854775807)=true/\∃ (i3:NV),(True/\Wks [AV.agg [i0 (intA (nthA 0 z1)),i0 (intA (nthA 1 z1)),i0 (intA (nthA 2 z1)),s0 (strA (nthA 3 z1)),AV.lst false 1 z4]] [AV.agg [i0 (NV.k i3),i0 (NV.a i3),i0 (NV.m i3),s0 (NV.t i3),AV.lst false 1 (NV.ks i3)]]/\hpL []=hpL [])/\(decide ((↑(levelK (NV.k i3)):Int)+1<tg)=true->decide (1+ByteArray.size (Prod.snd i1++bCC++Prod.snd i2)<=9223372036854775807)=true/\decide (ByteArray.size (⟨⟨[(40:UInt8)]⟩⟩++(Prod.snd i1++bCC++Prod.snd i2))+1<=9223372036854775807)=true/\Wk (s0 (⟨⟨[(40:UInt8)]⟩⟩++(Prod.snd i1++bCC++Prod.snd i2)++⟨⟨[(41:UInt8)]⟩⟩)) (s0 r)/\SameH (hpL z2) (hpL z2))/\(decide ((↑(levelK (NV.k i3)):Int)+1<tg)=false->Wk (s0 (Prod.snd i1++bCC++Prod.snd i2)) (s0 r)/\SameH (hpL z2) (hpL z2))):=by kernel_rfl
def zayB:Orc:=HF (HF (Orc.t (Orc.s Orc.z Orc.z)))
theorem zas3 (ns:List AV)(ks:List ((Int × Int) × ByteArray))(p tg:Int)(r:ByteArray):gYP9 zayB ns ks p tg r=(let z1:=(List.getD ns (0+Int.toNat p) uu); let z2:=[eR 1048577 [0,0] 5 ns]; let z3:=AV.agg [AV.slc 1048577 [0,0] 0 (List.length ns)]; let z4:=(elsA (nthA 4 z1)); let z5:=(Cx.B (cxV (XYP ns ks) 12 fYPr)); (decide ((0:Int)<=p/\p<(↑(List.length ns):Int))&&(true&&Nat.beq 5 5))=true/\(true&&(Nat.ble (0+Int.toNat p+1) (List.length ns)&&zaak z5 shN 33 z1))=true/\(intA (nthA 0 z1)==1)=false/\(intA (nthA 0 z1)==2)=false/\(intA (nthA 0 z1)==3)=false/\(intA (nthA 0 z1)==4)=false/\(intA (nthA 0 z1)==5)=false/\(intA (nthA 0 z1)==6)=false/\(intA (nthA 0 z1)==7)=false/\(intA (nthA 0 z1)==8)=false/\(intA (nthA 0 z1)==9)=true/\(decide ((0:Int)<=(0:Int)/\(0:Int)<(↑(List.length z4):Int))&&(Nat.beq 1 1&&(zaak z5 shN 3 (List.getD z4 0 uu)&&(false||true))))=true/\∃ (i1:(Int × Int) × ByteArray),(i1∈ks/\Wks [z3,i0 (intA (List.getD z4 0 uu)),i0 5] [z3,i0 (Prod.fst (Prod.fst i1)),i0 (Prod.snd (Prod.fst i1))]/\hpL z2=hpL z2)/\decide (ByteArray.size (Prod.snd i1)+2<=9223372036854775807)=true/\(decide ((0:Int)<=(1:Int)/\(1:Int)<(↑(List.length z4):Int))&&(Nat.beq 1 1&&(zaak z5 shN 3 (List.getD z4 1 uu)&&(false||true))))=true/\∃ (i2:(Int × Int) × ByteArray),(i2∈ks/\Wks [z3,i0 (intA (List.getD z4 1 uu)),i0 5] [z3,i0 (Prod.fst (Prod.fst i2)),i0 (Prod.snd (Prod.fst i2))]/\hpL z2=hpL z2)/\decide (ByteArray.size (Prod.snd i1++bDD)+ByteArray.size (Prod.snd i2)<=9223372036854775807)=true/\∃ (i3:NV),(True/\Wks [AV.agg [i0 (intA (nthA 0 z1)),i0 (intA (nthA 1 z1)),i0 (intA (nthA 2 z1)),s0 (strA (nthA 3 z1)),AV.lst false 1 z4]] [AV.agg [i0 (NV.k i3),i0 (NV.a i3),i0 (NV.m i3),s0 (NV.t i3),AV.lst false 1 (NV.ks i3)]]/\hpL []=hpL [])/\(decide ((↑(levelK (NV.k i3)):Int)+1<tg)=true->decide (1+ByteArray.size (Prod.snd i1++bDD++Prod.snd i2)<=9223372036854775807)=true/\decide (ByteArray.size (⟨⟨[(40:UInt8)]⟩⟩++(Prod.snd i1++bDD++Prod.snd i2))+1<=9223372036854775807)=true/\Wk (s0 (⟨⟨[(40:UInt8)]⟩⟩++(Prod.snd i1++bDD++Prod.snd i2)++⟨⟨[(41:UInt8)]⟩⟩)) (s0 r)/\SameH (hpL z2) (hpL z2))/\(decide ((↑(levelK (NV.k i3)):Int)+1<tg)=false->Wk (s0 (Prod.snd i1++bDD++Prod.snd i2)) (s0 r)/\SameH (hpL z2) (hpL z2))):=by kernel_rfl
def zayA:Orc:=HF (HF (Orc.f (Orc.f (Orc.f (Orc.s Orc.z Orc.z)))))
theorem zas1 (ns:List AV)(ks:List ((Int × Int) × ByteArray))(p tg:Int)(t:ByteArray)(ar m:Int)(d r:ByteArray):gYPA zayA ns ks p tg t ar m d r=(let z1:=(List.getD ns (0+Int.toNat p) uu); let z2:=(hpL [eR 1048577 [0,0] 5 ns]); let z3:=[(40:UInt8)]; let z4:=[(41:UInt8)]; (decide ((0:Int)<=p/\p<(↑(List.length ns):Int))&&(true&&Nat.beq 5 5))=true/\(true&&(Nat.ble (0+Int.toNat p+1) (List.length ns)&&zaak (Cx.B (cxV (XYC ns ks t ar m false d) 12 fYPr)) shN 33 z1))=true/\(intA (nthA 0 z1)==1)=false/\(intA (nthA 0 z1)==2)=false/\(intA (nthA 0 z1)==3)=false/\(intA (nthA 0 z1)==4)=false/\(intA (nthA 0 z1)==5)=false/\(intA (nthA 0 z1)==6)=false/\(intA (nthA 0 z1)==7)=false/\(intA (nthA 0 z1)==8)=false/\(intA (nthA 0 z1)==9)=false/\decide (ByteArray.size (strA (nthA 3 z1))+1<=9223372036854775807)=true/\decide ((↑(List.length (elsA (nthA 4 z1))):Int)>0)=false/\∃ (_:Unit),(True/\Wks [s0 (strA (nthA 3 z1))] [s0 t]/\hpL []=hpL [])/\Nf (decide (ByteArray.size (strA (nthA 3 z1)++{ data:={ toList:=z3 } })+1<=9223372036854775807)=true/\∃ (i2:NV),(True/\Wks [AV.agg [i0 (intA (nthA 0 z1)),i0 (intA (nthA 1 z1)),i0 (intA (nthA 2 z1)),s0 (strA (nthA 3 z1)),AV.lst false 1 (elsA (nthA 4 z1))]] [AV.agg [i0 (NV.k i2),i0 (NV.a i2),i0 (NV.m i2),s0 (NV.t i2),AV.lst false 1 (NV.ks i2)]]/\hpL []=hpL [])/\(decide ((↑(levelK (NV.k i2)):Int)+1<tg)=true->decide (1+ByteArray.size (strA (nthA 3 z1)++{ data:={ toList:=z3 } }++{ data:={ toList:=z4 } })<=9223372036854775807)=true/\decide (ByteArray.size ({ data:={ toList:=z3 } }++(strA (nthA 3 z1)++{ data:={ toList:=z3 } }++{ data:={ toList:=z4 } }))+1<=9223372036854775807)=true/\Wk (s0 ({ data:={ toList:=z3 } }++(strA (nthA 3 z1)++{ data:={ toList:=z3 } }++{ data:={ toList:=z4 } })++{ data:={ toList:=z4 } })) (s0 r)/\SameH z2 z2)/\(decide ((↑(levelK (NV.k i2)):Int)+1<tg)=false->Wk (s0 (strA (nthA 3 z1)++{ data:={ toList:=z3 } }++{ data:={ toList:=z4 } })) (s0 r)/\SameH z2 z2))):=by kernel_rfl
def zayz:Orc:=HF (HF (Orc.f (Orc.t (Orc.f (Orc.s Orc.z Orc.z)))))
theorem zasZ (ns:List AV)(ks:List ((Int × Int) × ByteArray))(p tg:Int)(t:ByteArray)(ar m:Int)(d r:ByteArray):gYPB zayz ns ks p tg t ar m d r=(let z1:=(List.getD ns (0+Int.toNat p) uu); let z2:=[eR 1048577 [0,0] 5 ns]; let z3:=[(40:UInt8)]; let z4:=(elsA (nthA 4 z1)); let z5:=AV.agg [AV.slc 1048577 [0,0] 0 (List.length ns)]; let z6:=(Cx.B (cxV (XYC ns ks t ar m false d) 12 fYPr)); let z7:=[(41:UInt8)]; (decide ((0:Int)<=p/\p<(↑(List.length ns):Int))&&(true&&Nat.beq 5 5))=true/\(true&&(Nat.ble (0+Int.toNat p+1) (List.length ns)&&zaak z6 shN 33 z1))=true/\(intA (nthA 0 z1)==1)=false/\(intA (nthA 0 z1)==2)=false/\(intA (nthA 0 z1)==3)=false/\(intA (nthA 0 z1)==4)=false/\(intA (nthA 0 z1)==5)=false/\(intA (nthA 0 z1)==6)=false/\(intA (nthA 0 z1)==7)=false/\(intA (nthA 0 z1)==8)=false/\(intA (nthA 0 z1)==9)=false/\decide (ByteArray.size (strA (nthA 3 z1))+1<=9223372036854775807)=true/\decide ((↑(List.length z4):Int)>0)=true/\(decide ((0:Int)<=(0:Int)/\(0:Int)<(↑(List.length z4):Int))&&(Nat.beq 1 1&&(zaak z6 shN 3 (List.getD z4 0 uu)&&(false||true))))=true/\∃ (i1:(Int × Int) × ByteArray),(i1∈ks/\Wks [z5,i0 (intA (List.getD z4 0 uu)),i0 1] [z5,i0 (Prod.fst (Prod.fst i1)),i0 (Prod.snd (Prod.fst i1))]/\hpL z2=hpL z2)/\decide (ByteArray.size (strA (nthA 3 z1)++{ data:={ toList:=z3 } })+ByteArray.size (Prod.snd i1)<=9223372036854775807)=true/\∃ (_:Unit),(True/\Wks [s0 (strA (nthA 3 z1))] [s0 t]/\hpL []=hpL [])/\Nf (decide (ByteArray.size (strA (nthA 3 z1)++{ data:={ toList:=z3 } }++Prod.snd i1)+1<=9223372036854775807)=true/\∃ (i3:NV),(True/\Wks [AV.agg [i0 (intA (nthA 0 z1)),i0 (intA (nthA 1 z1)),i0 (intA (nthA 2 z1)),s0 (strA (nthA 3 z1)),AV.lst false 1 z4]] [AV.agg [i0 (NV.k i3),i0 (NV.a i3),i0 (NV.m i3),s0 (NV.t i3),AV.lst false 1 (NV.ks i3)]]/\hpL []=hpL [])/\(decide ((↑(levelK (NV.k i3)):Int)+1<tg)=true->decide (1+ByteArray.size (strA (nthA 3 z1)++{ data:={ toList:=z3 } }++Prod.snd i1++{ data:={ toList:=z7 } })<=9223372036854775807)=true/\decide (ByteArray.size ({ data:={ toList:=z3 } }++(strA (nthA 3 z1)++{ data:={ toList:=z3 } }++Prod.snd i1++{ data:={ toList:=z7 } }))+1<=9223372036854775807)=true/\Wk (s0 ({ data:={ toList:=z3 } }++(strA (nthA 3 z1)++{ data:={ toList:=z3 } }++Prod.snd i1++{ data:={ toList:=z7 } })++{ data:={ toList:=z7 } })) (s0 r)/\SameH (hpL z2) (hpL z2))/\(decide ((↑(levelK (NV.k i3)):Int)+1<tg)=false->Wk (s0 (strA (nthA 3 z1)++{ data:={ toList:=z3 } }++Prod.snd i1++{ data:={ toList:=z7 } })) (s0 r)/\SameH (hpL z2) (hpL z2)))):=by kernel_rfl
def zayy:Orc:=HF (HF (Orc.f (Orc.t (Orc.t (Orc.s Orc.z Orc.z)))))
theorem zasX (ns:List AV)(ks:List ((Int × Int) × ByteArray))(p tg:Int)(t:ByteArray)(ar m:Int)(d r:ByteArray):gYPC zayy ns ks p tg t ar m d r=(let z1:=(List.getD ns (0+Int.toNat p) uu); let z2:=[eR 1048577 [0,0] 5 ns]; let z3:=[(40:UInt8)]; let z4:=(elsA (nthA 4 z1)); let z5:=[(44:UInt8)]; let z6:=AV.agg [AV.slc 1048577 [0,0] 0 (List.length ns)]; let z7:=(Cx.B (cxV (XYC ns ks t ar m true d) 12 fYPr)); let z8:=[(41:UInt8)]; (decide ((0:Int)<=p/\p<(↑(List.length ns):Int))&&(true&&Nat.beq 5 5))=true/\(true&&(Nat.ble (0+Int.toNat p+1) (List.length ns)&&zaak z7 shN 33 z1))=true/\(intA (nthA 0 z1)==1)=false/\(intA (nthA 0 z1)==2)=false/\(intA (nthA 0 z1)==3)=false/\(intA (nthA 0 z1)==4)=false/\(intA (nthA 0 z1)==5)=false/\(intA (nthA 0 z1)==6)=false/\(intA (nthA 0 z1)==7)=false/\(intA (nthA 0 z1)==8)=false/\(intA (nthA 0 z1)==9)=false/\decide (ByteArray.size (strA (nthA 3 z1))+1<=9223372036854775807)=true/\decide ((↑(List.length z4):Int)>0)=true/\(decide ((0:Int)<=(0:Int)/\(0:Int)<(↑(List.length z4):Int))&&(Nat.beq 1 1&&(zaak z7 shN 3 (List.getD z4 0 uu)&&(false||true))))=true/\∃ (i1:(Int × Int) × ByteArray),(i1∈ks/\Wks [z6,i0 (intA (List.getD z4 0 uu)),i0 1] [z6,i0 (Prod.fst (Prod.fst i1)),i0 (Prod.snd (Prod.fst i1))]/\hpL z2=hpL z2)/\decide (ByteArray.size (strA (nthA 3 z1)++{ data:={ toList:=z3 } })+ByteArray.size (Prod.snd i1)<=9223372036854775807)=true/\∃ (_:Unit),(True/\Wks [s0 (strA (nthA 3 z1))] [s0 t]/\hpL []=hpL [])/\Yt (decide (ByteArray.size (strA (nthA 3 z1)++{ data:={ toList:=z3 } }++Prod.snd i1)+1<=9223372036854775807)=true/\∃ (_:Unit),(True/\Wks [i0 (intA (nthA 2 z1))] [i0 m]/\hpL []=hpL [])/\decide (ByteArray.size (strA (nthA 3 z1)++{ data:={ toList:=z3 } }++Prod.snd i1++{ data:={ toList:=z5 } })+ByteArray.size d<=9223372036854775807)=true/\decide (ByteArray.size (strA (nthA 3 z1)++{ data:={ toList:=z3 } }++Prod.snd i1++{ data:={ toList:=z5 } }++d)+1<=9223372036854775807)=true/\∃ (i4:NV),(True/\Wks [AV.agg [i0 (intA (nthA 0 z1)),i0 (intA (nthA 1 z1)),i0 (intA (nthA 2 z1)),s0 (strA (nthA 3 z1)),AV.lst false 1 z4]] [AV.agg [i0 (NV.k i4),i0 (NV.a i4),i0 (NV.m i4),s0 (NV.t i4),AV.lst false 1 (NV.ks i4)]]/\hpL []=hpL [])/\(decide ((↑(levelK (NV.k i4)):Int)+1<tg)=true->decide (1+ByteArray.size (strA (nthA 3 z1)++{ data:={ toList:=z3 } }++Prod.snd i1++{ data:={ toList:=z5 } }++d++{ data:={ toList:=z8 } })<=9223372036854775807)=true/\decide (ByteArray.size ({ data:={ toList:=z3 } }++(strA (nthA 3 z1)++{ data:={ toList:=z3 } }++Prod.snd i1++{ data:={ toList:=z5 } }++d++{ data:={ toList:=z8 } }))+1<=9223372036854775807)=true/\Wk (s0 ({ data:={ toList:=z3 } }++(strA (nthA 3 z1)++{ data:={ toList:=z3 } }++Prod.snd i1++{ data:={ toList:=z5 } }++d++{ data:={ toList:=z8 } })++{ data:={ toList:=z8 } })) (s0 r)/\SameH (hpL z2) (hpL z2))/\(decide ((↑(levelK (NV.k i4)):Int)+1<tg)=false->Wk (s0 (strA (nthA 3 z1)++{ data:={ toList:=z3 } }++Prod.snd i1++{ data:={ toList:=z5 } }++d++{ data:={ toList:=z8 } })) (s0 r)/\SameH (hpL z2) (hpL z2)))):=by kernel_rfl
end Go.Proofs.YtpofhijgccocpaaGreatDoor
end
section
namespace Go.Proofs.YtpofhijgccocpaaGreatDoor
open Go.AS Go.TP
noncomputable section
theorem zaAf (k a m:Int)(t:ByteArray)(vs:List AV):zaak (Cx.B (cxV XB 12 fYPr)) shN 33 (rgV k a m t vs)=true:=by kernel_rfl
theorem zaAg (b:Int):zaak (Cx.B (cxV XB 12 fYPr)) shN 3 (i0 b)=true:=by kernel_rfl
def YB (k tg:Int)(s:ByteArray):ByteArray:=if (levelK k:Int)+1<tg then ⟨#[40]⟩++s++⟨#[41]⟩ else s
theorem ybT {k tg:Int}{s:ByteArray}(h:decide ((levelK k:Int)+1<tg)=true):Wk (s0 (⟨#[40]⟩++s++⟨#[41]⟩)) (s0 (YB k tg s)):=by rw [YB,if_pos (of_decide_eq_true h)]; exact .refl _
theorem ybF {k tg:Int}{s:ByteArray}(h:decide ((levelK k:Int)+1<tg)=false):Wk (s0 s) (s0 (YB k tg s)):=by rw [YB,if_neg (of_decide_eq_false h)]; exact .refl _
theorem ys0 {s:ByteArray}(h:s.size<=2000000):decide (1+s.size<=9223372036854775807)=true:=decide_eq_true (by omega)
theorem ys1 {s:ByteArray}(h:s.size<=2000000):decide ((⟨#[40]⟩++s:ByteArray).size+1<=9223372036854775807)=true:=decide_eq_true (by
 rw [ByteArray.size_append]; show 1+s.size+1<=_; omega)
theorem ys {a b:Nat}(h:a+b<=9223372036854775807):decide (a+b<=9223372036854775807)=true:=decide_eq_true h
section
variable {l:List RN} {p:Nat} {k a m:Int} {t:ByteArray} {kk:List Nat}
theorem RkH.y2 (h:RkH l p k a m t kk):∀ B:Tb,B=Cx.B (cxV XB 12 fYPr)->(true&&(Nat.ble (0+(p:Int).toNat+1) (l.map xE).length&&zaak B shN 33 (rgV k a m t (kk.map fun j:Nat=>i0 (j:Int)))))=true:=by
 intro B hB; subst hB
 rw [zaAf,Nat.ble_eq_true_of_le h.l1]; rfl
theorem yc (b:Int):(true&&(true&&(zaak (Cx.B (cxV XB 12 fYPr)) shN 3 (i0 b)&&true)))=true:=by rw [zaAg]; rfl
set_option maxRecDepth 100000 in
theorem zatj (H:RkH l p 1 a m t [])(hs:(t).size<=2000000)(tg:Int):gYP1 (Orc.t (Orc.s Orc.z Orc.z)) (l.map xE) [] p tg (YB 1 tg (t)):=by
 rw [zati]
 try dsimp only
 rw [H.e]
 exact ⟨H.c1,H.y2 _ rfl,rfl,⟨1,a,m,t,_⟩,⟨trivial, .refl _,rfl⟩,fun h0=>⟨ys0 hs,ys1 hs,ybT h0, .rfl⟩,fun h0=>⟨ybF h0, .rfl⟩⟩
set_option maxRecDepth 100000 in
theorem zath {b c:Nat}{x y:ByteArray}(H:RkH l p 2 a m t [b,c])(hs:(x++⟨#[43]⟩++y).size<=2000000)(tg:Int):gYP2 zayI (l.map xE) [(((b:Int),1),x),(((c:Int),2),y)] p tg (YB 2 tg (x++⟨#[43]⟩++y)):=by
 rw [zatg]
 try dsimp only
 rw [H.e]
 exact ⟨H.c1,H.y2 _ rfl,rfl,rfl,yc _,⟨(b,1),x⟩,⟨.head _, .refl _,rfl⟩,ys (by show x.size+_<=_; simp only [ByteArray.size_append] at hs; omega),yc _,⟨(c,2),y⟩,⟨.tail _ (.head _), .refl _,rfl⟩,ys (by show (x++⟨#[43]⟩).size+_<=_; simp only [ByteArray.size_append] at hs ⊢; omega),⟨2,a,m,t,_⟩,⟨trivial, .refl _,rfl⟩,fun h0=>⟨ys0 hs,ys1 hs,ybT h0, .rfl⟩,fun h0=>⟨ybF h0, .rfl⟩⟩
set_option maxRecDepth 100000 in
theorem zatf {b c:Nat}{x y:ByteArray}(H:RkH l p 3 a m t [b,c])(hs:(x++⟨#[45]⟩++y).size<=2000000)(tg:Int):gYP3 zayH (l.map xE) [(((b:Int),1),x),(((c:Int),2),y)] p tg (YB 3 tg (x++⟨#[45]⟩++y)):=by
 rw [zate]
 try dsimp only
 rw [H.e]
 exact ⟨H.c1,H.y2 _ rfl,rfl,rfl,rfl,yc _,⟨(b,1),x⟩,⟨.head _, .refl _,rfl⟩,ys (by show x.size+_<=_; simp only [ByteArray.size_append] at hs; omega),yc _,⟨(c,2),y⟩,⟨.tail _ (.head _), .refl _,rfl⟩,ys (by show (x++⟨#[45]⟩).size+_<=_; simp only [ByteArray.size_append] at hs ⊢; omega),⟨3,a,m,t,_⟩,⟨trivial, .refl _,rfl⟩,fun h0=>⟨ys0 hs,ys1 hs,ybT h0, .rfl⟩,fun h0=>⟨ybF h0, .rfl⟩⟩
set_option maxRecDepth 100000 in
theorem zatd {b c:Nat}{x y:ByteArray}(H:RkH l p 4 a m t [b,c])(hs:(x++⟨#[38]⟩++y).size<=2000000)(tg:Int):gYP4 zayG (l.map xE) [(((b:Int),2),x),(((c:Int),3),y)] p tg (YB 4 tg (x++⟨#[38]⟩++y)):=by
 rw [zatc]
 try dsimp only
 rw [H.e]
 exact ⟨H.c1,H.y2 _ rfl,rfl,rfl,rfl,rfl,yc _,⟨(b,2),x⟩,⟨.head _, .refl _,rfl⟩,ys (by show x.size+_<=_; simp only [ByteArray.size_append] at hs; omega),yc _,⟨(c,3),y⟩,⟨.tail _ (.head _), .refl _,rfl⟩,ys (by show (x++⟨#[38]⟩).size+_<=_; simp only [ByteArray.size_append] at hs ⊢; omega),⟨4,a,m,t,_⟩,⟨trivial, .refl _,rfl⟩,fun h0=>⟨ys0 hs,ys1 hs,ybT h0, .rfl⟩,fun h0=>⟨ybF h0, .rfl⟩⟩
set_option maxRecDepth 100000 in
theorem zas6 {b c:Nat}{x y:ByteArray}(H:RkH l p 8 a m t [b,c])(hs:(x++⟨#[58,58]⟩++y).size<=2000000)(tg:Int):gYP8 zayC (l.map xE) [(((b:Int),5),x),(((c:Int),5),y)] p tg (YB 8 tg (x++⟨#[58,58]⟩++y)):=by
 rw [zas5]
 try dsimp only
 rw [H.e]
 exact ⟨H.c1,H.y2 _ rfl,rfl,rfl,rfl,rfl,rfl,rfl,rfl,rfl,yc _,⟨(b,5),x⟩,⟨.head _, .refl _,rfl⟩,ys (by show x.size+_<=_; simp only [ByteArray.size_append] at hs; omega),yc _,⟨(c,5),y⟩,⟨.tail _ (.head _), .refl _,rfl⟩,ys (by show (x++⟨#[58,58]⟩).size+_<=_; simp only [ByteArray.size_append] at hs ⊢; omega),⟨8,a,m,t,_⟩,⟨trivial, .refl _,rfl⟩,fun h0=>⟨ys0 hs,ys1 hs,ybT h0, .rfl⟩,fun h0=>⟨ybF h0, .rfl⟩⟩
set_option maxRecDepth 100000 in
theorem zas4 {b c:Nat}{x y:ByteArray}(H:RkH l p 9 a m t [b,c])(hs:(x++⟨#[46,46]⟩++y).size<=2000000)(tg:Int):gYP9 zayB (l.map xE) [(((b:Int),5),x),(((c:Int),5),y)] p tg (YB 9 tg (x++⟨#[46,46]⟩++y)):=by
 rw [zas3]
 try dsimp only
 rw [H.e]
 exact ⟨H.c1,H.y2 _ rfl,rfl,rfl,rfl,rfl,rfl,rfl,rfl,rfl,rfl,yc _,⟨(b,5),x⟩,⟨.head _, .refl _,rfl⟩,ys (by show x.size+_<=_; simp only [ByteArray.size_append] at hs; omega),yc _,⟨(c,5),y⟩,⟨.tail _ (.head _), .refl _,rfl⟩,ys (by show (x++⟨#[46,46]⟩).size+_<=_; simp only [ByteArray.size_append] at hs ⊢; omega),⟨9,a,m,t,_⟩,⟨trivial, .refl _,rfl⟩,fun h0=>⟨ys0 hs,ys1 hs,ybT h0, .rfl⟩,fun h0=>⟨ybF h0, .rfl⟩⟩
set_option maxRecDepth 100000 in
theorem zatb {b:Nat}{x:ByteArray}(H:RkH l p 5 a m t [b])(hs:(⟨#[33]⟩++x).size<=2000000)(tg:Int):gYP5 zayF (l.map xE) [(((b:Int),3),x)] p tg (YB 5 tg (⟨#[33]⟩++x)):=by
 rw [zata]
 try dsimp only
 rw [H.e]
 exact ⟨H.c1,H.y2 _ rfl,rfl,rfl,rfl,rfl,rfl,yc _,⟨(b,3),x⟩,⟨.head _, .refl _,rfl⟩,ys (by show _+x.size<=_; simp only [ByteArray.size_append] at hs; omega),⟨5,a,m,t,_⟩,⟨trivial, .refl _,rfl⟩,fun h0=>⟨ys0 hs,ys1 hs,ybT h0, .rfl⟩,fun h0=>⟨ybF h0, .rfl⟩⟩
set_option maxRecDepth 100000 in
theorem zat {b:Nat}{x:ByteArray}(H:RkH l p 6 a m t [b])(hs:(⟨#[58,58]⟩++x).size<=2000000)(tg:Int):gYP6 zayE (l.map xE) [(((b:Int),5),x)] p tg (YB 6 tg (⟨#[58,58]⟩++x)):=by
 rw [zas9]
 try dsimp only
 rw [H.e]
 exact ⟨H.c1,H.y2 _ rfl,rfl,rfl,rfl,rfl,rfl,rfl,yc _,⟨(b,5),x⟩,⟨.head _, .refl _,rfl⟩,ys (by show _+x.size<=_; simp only [ByteArray.size_append] at hs; omega),⟨6,a,m,t,_⟩,⟨trivial, .refl _,rfl⟩,fun h0=>⟨ys0 hs,ys1 hs,ybT h0, .rfl⟩,fun h0=>⟨ybF h0, .rfl⟩⟩
set_option maxRecDepth 100000 in
theorem zas8 {b:Nat}{x:ByteArray}(H:RkH l p 7 a m t [b])(hs:(x++⟨#[58,58]⟩).size<=2000000)(tg:Int):gYP7 zayD (l.map xE) [(((b:Int),5),x)] p tg (YB 7 tg (x++⟨#[58,58]⟩)):=by
 rw [zas7]
 try dsimp only
 rw [H.e]
 exact ⟨H.c1,H.y2 _ rfl,rfl,rfl,rfl,rfl,rfl,rfl,rfl,yc _,⟨(b,5),x⟩,⟨.head _, .refl _,rfl⟩,ys (by show x.size+_<=_; simp only [ByteArray.size_append] at hs; omega),⟨7,a,m,t,_⟩,⟨trivial, .refl _,rfl⟩,fun h0=>⟨ys0 hs,ys1 hs,ybT h0, .rfl⟩,fun h0=>⟨ybF h0, .rfl⟩⟩
set_option maxRecDepth 100000 in
theorem zas2 {ar:Int}{d:ByteArray}(H:RkH l p 10 a m t [])(hs:(t++⟨#[40]⟩++⟨#[41]⟩).size<=2000000)(tg:Int):gYPA zayA (l.map xE) [] p tg t ar m d (YB 10 tg (t++⟨#[40]⟩++⟨#[41]⟩)):=by
 rw [zas1]
 try dsimp only
 rw [H.e]
 exact ⟨H.c1,H.y2 _ rfl,rfl,rfl,rfl,rfl,rfl,rfl,rfl,rfl,rfl,ys (by show t.size+_<=_; simp only [ByteArray.size_append] at hs; omega),rfl,(),⟨trivial, .refl _,rfl⟩,rfl,ys (by show (t++⟨#[40]⟩).size+_<=_; simp only [ByteArray.size_append] at hs ⊢; omega),⟨10,a,m,t,_⟩,⟨trivial, .refl _,rfl⟩,fun h0=>⟨ys0 hs,ys1 hs,ybT h0, .rfl⟩,fun h0=>⟨ybF h0, .rfl⟩⟩
set_option maxRecDepth 100000 in
theorem zas0 {b:Nat}{x:ByteArray}{ar:Int}{d:ByteArray}(H:RkH l p 10 a m t [b])(hs:(t++⟨#[40]⟩++x++⟨#[41]⟩).size<=2000000)(tg:Int):gYPB zayz (l.map xE) [(((b:Int),1),x)] p tg t ar m d (YB 10 tg (t++⟨#[40]⟩++x++⟨#[41]⟩)):=by
 rw [zasZ]
 try dsimp only
 rw [H.e]
 exact ⟨H.c1,H.y2 _ rfl,rfl,rfl,rfl,rfl,rfl,rfl,rfl,rfl,rfl,ys (by show t.size+_<=_; simp only [ByteArray.size_append] at hs; omega),rfl,yc _,⟨(b,1),x⟩,⟨.head _, .refl _,rfl⟩,ys (by show (t++⟨#[40]⟩).size+_<=_; simp only [ByteArray.size_append] at hs ⊢; omega),(),⟨trivial, .refl _,rfl⟩,rfl,ys (by show (t++⟨#[40]⟩++x).size+_<=_; simp only [ByteArray.size_append] at hs ⊢; omega),⟨10,a,m,t,_⟩,⟨trivial, .refl _,rfl⟩,fun h0=>⟨ys0 hs,ys1 hs,ybT h0, .rfl⟩,fun h0=>⟨ybF h0, .rfl⟩⟩
set_option maxRecDepth 100000 in
theorem zasY {b:Nat}{x:ByteArray}{ar:Int}{d:ByteArray}(H:RkH l p 10 a m t [b])(hs:(t++⟨#[40]⟩++x++⟨#[44]⟩++d++⟨#[41]⟩).size<=2000000)(tg:Int):gYPC zayy (l.map xE) [(((b:Int),1),x)] p tg t ar m d (YB 10 tg (t++⟨#[40]⟩++x++⟨#[44]⟩++d++⟨#[41]⟩)):=by
 rw [zasX]
 try dsimp only
 rw [H.e]
 exact ⟨H.c1,H.y2 _ rfl,rfl,rfl,rfl,rfl,rfl,rfl,rfl,rfl,rfl,ys (by show t.size+_<=_; simp only [ByteArray.size_append] at hs; omega),rfl,yc _,⟨(b,1),x⟩,⟨.head _, .refl _,rfl⟩,ys (by show (t++⟨#[40]⟩).size+_<=_; simp only [ByteArray.size_append] at hs ⊢; omega),(),⟨trivial, .refl _,rfl⟩,rfl,ys (by show (t++⟨#[40]⟩++x).size+_<=_; simp only [ByteArray.size_append] at hs ⊢; omega),(),⟨trivial, .refl _,rfl⟩,ys (by show (t++⟨#[40]⟩++x++⟨#[44]⟩).size+_<=_; simp only [ByteArray.size_append] at hs ⊢; omega),ys (by show (t++⟨#[40]⟩++x++⟨#[44]⟩++d).size+_<=_; simp only [ByteArray.size_append] at hs ⊢; omega),⟨10,a,m,t,_⟩,⟨trivial, .refl _,rfl⟩,fun h0=>⟨ys0 hs,ys1 hs,ybT h0, .rfl⟩,fun h0=>⟨ybF h0, .rfl⟩⟩
end
end
end Go.Proofs.YtpofhijgccocpaaGreatDoor
end
section
namespace Go.Proofs.YtpofhijgccocpaaGreatDoor
open Go.AS Go.TP
noncomputable section
def zazX (os:Orc)(ts:List AV)(k d:Int)(xs:List AV)(bad' pl':Int):Prop :=
 runF (XQn ((XB.add fXIs (Sp.con [spI 2 true (xHp 0 ts k d xs 0 0)])).add zaaq (Sp.con [spD false (xHp 0 ts k d xs 0 0) (xHp 0 ts k d xs bad' pl')])) zaab [38,39,49,51,117,119]) 14 zaab (fn zaab) (code zaab) os 0 [] [xArg] (xHp 0 ts k d xs 0 0) ⟨i0 0,(xHp 0 ts k d xs bad' pl'),[1048577,1048578]⟩
def zazW (os:Orc)(ts:List AV)(k d:Int)(xs:List AV)(k1 k2 d2:Int)(xs2:List AV)(bad2 pl2 v:Int)(k3 bad3 pl3:Int)(b:Bool):Prop :=
 runF (XQn ((((XB.add fXIs (Sp.con [spI 2 true (xHp 0 ts k d xs 0 0)])).add zaaq (Sp.con [spD true (xHp 0 ts k d xs 0 0) (xHp 0 ts k1 (d+1) xs 0 0)])).add zaan (Sp.con [spV v (xHp 0 ts k1 (d+1) xs 0 0) (xHp 1 ts k2 d2 xs2 bad2 pl2)])).add zabp (Sp.con [spX [i0 3] (xHp 0 ts k2 d2 xs2 bad2 pl2) ⟨b0 b,(xHp 0 ts k3 d2 xs2 bad3 pl3),[1048578]⟩])) zaab [38,39,49,51,117,119]) 14 zaab (fn zaab) (code zaab) os 0 [1048577] [xArg] (xHp 0 ts k d xs 0 0) ⟨i0 v,(xHp 1 ts k3 (d2-1) xs2 bad3 pl3),[1048577,1048578]⟩
def gAtX (os:Orc)(ts:List AV)(k d:Int)(xs:List AV)(bad' pl':Int):Prop :=
 runF (XQn ((XB.add fXIs (Sp.con [spI 2 false (xHp 0 ts k d xs 0 0),spI 1 false (xHp 0 ts k d xs 0 0)])).add zabB (Sp.con [spX [i0 15] (xHp 0 ts k d xs 0 0) ⟨i0 0,(xHp 0 ts k d xs bad' pl'),[1048578]⟩])) zaab [38,39,49,51,117,119]) 14 zaab (fn zaab) (code zaab) os 0 [] [xArg] (xHp 0 ts k d xs 0 0) ⟨i0 0,(xHp 0 ts k d xs bad' pl'),[1048577,1048578]⟩
def zazV (os:Orc)(ts:List AV)(k d:Int)(xs:List AV)(bad' pl':Int)(t:ByteArray):Prop :=
 runF (XQn (((XB.add fXIs (Sp.con [spI 2 false (xHp 0 ts k d xs 0 0),spI 1 true (xHp 0 ts k d xs 0 0)])).add zaaA (Sp.con [.pure Unit (fun _=>True) (fun _=>[s0 t]) (fun _=>b0 false)])).add zabB (Sp.con [spX [i0 15] (xHp 0 ts k d xs 0 0) ⟨i0 0,(xHp 0 ts k d xs bad' pl'),[1048578]⟩])) zaab [38,39,49,51,117,119]) 14 zaab (fn zaab) (code zaab) os 0 [] [xArg] (xHp 0 ts k d xs 0 0) ⟨i0 0,(xHp 0 ts k d xs bad' pl'),[1048577,1048578]⟩
def zazU (os:Orc)(ts:List AV)(k d:Int)(xs:List AV)(a:Int)(t:ByteArray):Prop :=
 runF (XQn (((XB.add fXIs (Sp.con [spI 2 false (xHp 0 ts k d xs 0 0),spI 1 true (xHp 0 ts k d xs 0 0)])).add zaaA (Sp.con [.pure Unit (fun _=>True) (fun _=>[s0 t]) (fun _=>b0 true)])).add zabG (Sp.con [spA (rgV 1 a 0 t []) xs.length (xHp 0 ts (k+1) d xs 0 0) (xHp 1 ts (k+1) d (xs++[(rgV 1 a 0 t [])]) 0 0)])) zaab [38,39,49,51,117,119]) 14 zaab (fn zaab) (code zaab) os 0 [1048577] [xArg] (xHp 0 ts k d xs 0 0) ⟨i0 xs.length,xHp 1 ts (k+1) d (xs++[(rgV 1 a 0 t [])]) 0 0,[1048577,1048578]⟩
def zaz1 (os:Orc)(ts:List AV)(k d:Int)(xs:List AV)(bad' pl':Int)(t:ByteArray):Prop :=
 runF (XQn (((XB.add fXIs (Sp.con [spI 2 false (xHp 0 ts k d xs 0 0),spI 1 true (xHp 0 ts k d xs 0 0)])).add zaa9 (Sp.con [.pure Unit (fun _=>True) (fun _=>[s0 t]) (fun _ => .tup [i0 (-1),b0 false])])).add zabB (Sp.con [spX [i0 15] (xHp 0 ts k d xs 0 0) ⟨i0 0,(xHp 0 ts k d xs bad' pl'),[1048578]⟩])) zaab [38,39,49,51,117,119]) 14 zaab (fn zaab) (code zaab) os 0 [] [xArg] (xHp 0 ts k d xs 0 0) ⟨i0 0,(xHp 0 ts k d xs bad' pl'),[1048577,1048578]⟩
def zazY (os:Orc)(ts:List AV)(k d:Int)(xs:List AV)(bad' pl':Int)(t:ByteArray)(n:Int)(b:Bool):Prop :=
 runF (XQn (((XB.add fXIs (Sp.con [spI 2 false (xHp 0 ts k d xs 0 0),spI 1 true (xHp 0 ts k d xs 0 0)])).add zaa9 (Sp.con [.pure Unit (fun _=>True) (fun _=>[s0 t]) (fun _ => .tup [i0 n,b0 b])])).add zaaq (Sp.con [spD false (xHp 0 ts (k+1) d xs 0 0) (xHp 0 ts (k+1) d xs bad' pl')])) zaab [38,39,49,51,117,119]) 14 zaab (fn zaab) (code zaab) os 0 [] [xArg] (xHp 0 ts k d xs 0 0) ⟨i0 0,(xHp 0 ts (k+1) d xs bad' pl'),[1048577,1048578]⟩
def zaz0 (os:Orc)(ts:List AV)(k d:Int)(xs:List AV)(t:ByteArray)(a k1 k3 bad3 pl3:Int)(b:Bool):Prop :=
 runF (XQn (((((XB.add fXIs (Sp.con [spI 2 false (xHp 0 ts k d xs 0 0),spI 1 true (xHp 0 ts k d xs 0 0)])).add zaa9 (Sp.con [.pure Unit (fun _=>True) (fun _=>[s0 t]) (fun _ => .tup [i0 0,b0 false])])).add zaaq (Sp.con [spD true (xHp 0 ts (k+1) d xs 0 0) (xHp 0 ts k1 (d+1) xs 0 0)])).add zabp (Sp.con [spX [i0 3] (xHp 0 ts k1 (d+1) xs 0 0) ⟨b0 b,(xHp 0 ts k3 (d+1) xs bad3 pl3),[1048578]⟩])).add zabG (Sp.con [spA (rgV 10 a 0 t []) xs.length (xHp 0 ts k3 (d+1-1) xs bad3 pl3) (xHp 1 ts k3 (d+1-1) (xs++[(rgV 10 a 0 t [])]) bad3 pl3)])) zaab [38,39,49,51,117,119]) 14 zaab (fn zaab) (code zaab) os 0 [1048577] [xArg] (xHp 0 ts k d xs 0 0) ⟨i0 xs.length,xHp 1 ts k3 (d+1-1) (xs++[(rgV 10 a 0 t [])]) bad3 pl3,[1048577,1048578]⟩
def zazZ (os:Orc)(ts:List AV)(k d:Int)(xs:List AV)(t:ByteArray)(a:Int)(k1 k2 d2:Int)(xs2:List AV)(bad2 pl2 v:Int)(k3 bad3 pl3:Int)(b:Bool):Prop :=
 runF (XQn ((((((XB.add fXIs (Sp.con [spI 2 false (xHp 0 ts k d xs 0 0),spI 1 true (xHp 0 ts k d xs 0 0)])).add zaa9 (Sp.con [.pure Unit (fun _=>True) (fun _=>[s0 t]) (fun _ => .tup [i0 1,b0 false])])).add zaaq (Sp.con [spD true (xHp 0 ts (k+1) d xs 0 0) (xHp 0 ts k1 (d+1) xs 0 0)])).add zaan (Sp.con [spV v (xHp 0 ts k1 (d+1) xs 0 0) (xHp 1 ts k2 d2 xs2 bad2 pl2)])).add zabp (Sp.con [spX [i0 3] (xHp 0 ts k2 d2 xs2 bad2 pl2) ⟨b0 b,(xHp 0 ts k3 d2 xs2 bad3 pl3),[1048578]⟩])).add zabG (Sp.con [spA (rgV 10 a 0 t [i0 v]) xs2.length (xHp 0 ts k3 (d2-1) xs2 bad3 pl3) (xHp 1 ts k3 (d2-1) (xs2++[(rgV 10 a 0 t [i0 v])]) bad3 pl3)])) zaab [38,39,49,51,117,119]) 14 zaab (fn zaab) (code zaab) os 0 [1048577] [xArg] (xHp 0 ts k d xs 0 0) ⟨i0 xs2.length,xHp 1 ts k3 (d2-1) (xs2++[(rgV 10 a 0 t [i0 v])]) bad3 pl3,[1048577,1048578]⟩
def zavp (os:Orc)(ts:List AV)(k d:Int)(xs:List AV)(t:ByteArray)(a:Int)(k1 k2 d2:Int)(xs2:List AV)(bad2 pl2 v:Int)(k3 bad3 pl3:Int)(k4 bad4 pl4:Int)(b:Bool):Prop :=
 runF (XQn ((((((XB.add fXIs (Sp.con [spI 2 false (xHp 0 ts k d xs 0 0),spI 1 true (xHp 0 ts k d xs 0 0)])).add zaa9 (Sp.con [.pure Unit (fun _=>True) (fun _=>[s0 t]) (fun _ => .tup [i0 1,b0 true])])).add zaaq (Sp.con [spD true (xHp 0 ts (k+1) d xs 0 0) (xHp 0 ts k1 (d+1) xs 0 0)])).add zaan (Sp.con [spV v (xHp 0 ts k1 (d+1) xs 0 0) (xHp 1 ts k2 d2 xs2 bad2 pl2)])).add zabp (Sp.con [spX [i0 4] (xHp 0 ts k2 d2 xs2 bad2 pl2) ⟨b0 false,(xHp 0 ts k4 d2 xs2 bad4 pl4),[1048578]⟩,spX [i0 3] (xHp 0 ts k4 d2 xs2 bad4 pl4) ⟨b0 b,(xHp 0 ts k3 d2 xs2 bad3 pl3),[1048578]⟩])).add zabG (Sp.con [spA (rgV 10 a 0 t [i0 v]) xs2.length (xHp 0 ts k3 (d2-1) xs2 bad3 pl3) (xHp 1 ts k3 (d2-1) (xs2++[(rgV 10 a 0 t [i0 v])]) bad3 pl3)])) zaab [38,39,49,51,117,119]) 14 zaab (fn zaab) (code zaab) os 0 [1048577] [xArg] (xHp 0 ts k d xs 0 0) ⟨i0 xs2.length,xHp 1 ts k3 (d2-1) (xs2++[(rgV 10 a 0 t [i0 v])]) bad3 pl3,[1048577,1048578]⟩
def zavr (os:Orc)(ts:List AV)(k d:Int)(xs:List AV)(t tn:ByteArray)(_ m:Int)(k1 k2 d2:Int)(xs2:List AV)(bad2 pl2 v:Int)(_ _ _:Int)(k4 bad' pl':Int):Prop :=
 runF (XQn (((((((XB.add fXIs (Sp.con [spI 2 false (xHp 0 ts k d xs 0 0),spI 1 true (xHp 0 ts k d xs 0 0),spI 1 false (xHp 0 ts k4 d2 xs2 0 0)])).add zaa9 (Sp.con [.pure Unit (fun _=>True) (fun _=>[s0 t]) (fun _ => .tup [i0 1,b0 true])])).add zaaq (Sp.con [spD true (xHp 0 ts (k+1) d xs 0 0) (xHp 0 ts k1 (d+1) xs 0 0)])).add zaan (Sp.con [spV v (xHp 0 ts k1 (d+1) xs 0 0) (xHp 1 ts k2 d2 xs2 bad2 pl2)])).add zabp (Sp.con [spX [i0 4] (xHp 0 ts k2 d2 xs2 bad2 pl2) ⟨b0 true,(xHp 0 ts k4 d2 xs2 0 0),[1048578]⟩])).add zaag (Sp.con [.pure Unit (fun _=>True) (fun _=>[s0 tn]) (fun _=>i0 m)])).add zabB (Sp.con [spX [i0 15] (xHp 0 ts k4 d2 xs2 0 0) ⟨i0 0,(xHp 0 ts k4 d2 xs2 bad' pl'),[1048578]⟩])) zaab [38,39,49,51,117,119]) 14 zaab (fn zaab) (code zaab) os 0 [1048577] [xArg] (xHp 0 ts k d xs 0 0) ⟨i0 0,(xHp 1 ts k4 d2 xs2 bad' pl'),[1048577,1048578]⟩
def zavq (os:Orc)(ts:List AV)(k d:Int)(xs:List AV)(t tn:ByteArray)(_ m:Int)(k1 k2 d2:Int)(xs2:List AV)(bad2 pl2 v:Int)(_ _ _:Int)(k4 bad' pl':Int):Prop :=
 runF (XQn (((((((XB.add fXIs (Sp.con [spI 2 false (xHp 0 ts k d xs 0 0),spI 1 true (xHp 0 ts k d xs 0 0),spI 1 true (xHp 0 ts k4 d2 xs2 0 0)])).add zaa9 (Sp.con [.pure Unit (fun _=>True) (fun _=>[s0 t]) (fun _ => .tup [i0 1,b0 true])])).add zaaq (Sp.con [spD true (xHp 0 ts (k+1) d xs 0 0) (xHp 0 ts k1 (d+1) xs 0 0)])).add zaan (Sp.con [spV v (xHp 0 ts k1 (d+1) xs 0 0) (xHp 1 ts k2 d2 xs2 bad2 pl2)])).add zabp (Sp.con [spX [i0 4] (xHp 0 ts k2 d2 xs2 bad2 pl2) ⟨b0 true,(xHp 0 ts k4 d2 xs2 0 0),[1048578]⟩])).add zaag (Sp.con [.pure Unit (fun _=>True) (fun _=>[s0 tn]) (fun _=>i0 m)])).add zabB (Sp.con [spX [i0 15] (xHp 0 ts k4 d2 xs2 0 0) ⟨i0 0,(xHp 0 ts k4 d2 xs2 bad' pl'),[1048578]⟩])) zaab [38,39,49,51,117,119]) 14 zaab (fn zaab) (code zaab) os 0 [1048577] [xArg] (xHp 0 ts k d xs 0 0) ⟨i0 0,(xHp 1 ts k4 d2 xs2 bad' pl'),[1048577,1048578]⟩
def zavo (os:Orc)(ts:List AV)(k d:Int)(xs:List AV)(t tn:ByteArray)(a m:Int)(k1 k2 d2:Int)(xs2:List AV)(bad2 pl2 v:Int)(k3 bad3 pl3:Int)(k4:Int)(b:Bool):Prop :=
 runF (XQn (((((((XB.add fXIs (Sp.con [spI 2 false (xHp 0 ts k d xs 0 0),spI 1 true (xHp 0 ts k d xs 0 0),spI 1 true (xHp 0 ts k4 d2 xs2 0 0)])).add zaa9 (Sp.con [.pure Unit (fun _=>True) (fun _=>[s0 t]) (fun _ => .tup [i0 1,b0 true])])).add zaaq (Sp.con [spD true (xHp 0 ts (k+1) d xs 0 0) (xHp 0 ts k1 (d+1) xs 0 0)])).add zaan (Sp.con [spV v (xHp 0 ts k1 (d+1) xs 0 0) (xHp 1 ts k2 d2 xs2 bad2 pl2)])).add zabp (Sp.con [spX [i0 4] (xHp 0 ts k2 d2 xs2 bad2 pl2) ⟨b0 true,(xHp 0 ts k4 d2 xs2 0 0),[1048578]⟩,spX [i0 3] (xHp 0 ts (k4+1) d2 xs2 0 0) ⟨b0 b,(xHp 0 ts k3 d2 xs2 bad3 pl3),[1048578]⟩])).add zaag (Sp.con [.pure Unit (fun _=>True) (fun _=>[s0 tn]) (fun _=>i0 m)])).add zabG (Sp.con [spA (rgV 10 a m t [i0 v]) xs2.length (xHp 0 ts k3 (d2-1) xs2 bad3 pl3) (xHp 1 ts k3 (d2-1) (xs2++[(rgV 10 a m t [i0 v])]) bad3 pl3)])) zaab [38,39,49,51,117,119]) 14 zaab (fn zaab) (code zaab) os 0 [1048577] [xArg] (xHp 0 ts k d xs 0 0) ⟨i0 xs2.length,xHp 1 ts k3 (d2-1) (xs2++[(rgV 10 a m t [i0 v])]) bad3 pl3,[1048577,1048578]⟩
end
end Go.Proofs.YtpofhijgccocpaaGreatDoor
end
section
namespace Go.Proofs.YtpofhijgccocpaaGreatDoor
open Go Go.AS Go.TP
noncomputable abbrev zakx (ts:List AV) (k:Int) (d:Int) (xs:List AV):=[AV.agg [AV.lst false 3 ts,i0 k,i0 d,AV.slc 1048577 [0,0] 0 (List.length xs),i0 0,i0 0]]
noncomputable abbrev zalZ (ts:List AV) (k:Int) (d:Int) (xs:List AV):=(WX.add XB fXIs (Sp.con [spI (2:Int) false (xHp 0 ts k d xs (0:Int) (0:Int)),spI (1:Int) true (xHp 0 ts k d xs (0:Int) (0:Int))]))
noncomputable abbrev zajR (xs:List AV):=AV.slc 1048577 [0,0] 0 (List.length xs)
noncomputable abbrev zasa (ts:List AV) (k:Int) (d:Int) (xs:List AV) (k1:Int):=(Sp.con [spD true (xHp 0 ts (k+1) d xs (0:Int) (0:Int)) (xHp 0 ts k1 (d+1) xs (0:Int) (0:Int))])
noncomputable abbrev zayn (ts:List AV) (k:Int) (d:Int) (xs:List AV) (k4:Int) (d2:Int) (xs2:List AV):=(WX.add XB fXIs (Sp.con [spI (2:Int) false (xHp 0 ts k d xs (0:Int) (0:Int)),spI (1:Int) true (xHp 0 ts k d xs (0:Int) (0:Int)),spI (1:Int) true (xHp 0 ts k4 d2 xs2 (0:Int) (0:Int))]))
noncomputable abbrev zawy (ts:List AV) (k4:Int) (d2:Int) (xs2:List AV):=[AV.agg [AV.lst false 3 ts,i0 k4,i0 d2,AV.slc 1048577 [0,0] 0 (List.length xs2),i0 0,i0 0]]
noncomputable abbrev zajQ:=[AV.ptr 1048578 [1,0] 0 0,i0 1]
noncomputable abbrev zapl (ts:List AV) (k:Int) (d:Int) (xs:List AV):=[AV.agg [AV.lst false 3 ts,i0 (k+1),i0 d,(zajR xs),i0 0,i0 0]]
noncomputable abbrev zanH (ts:List AV) (k:Int) (t:ByteArray):=(True/\Wks [s0 (strA (nthA 2 (List.getD ts (Int.toNat k) uu)))] [s0 t]/\hpL []=hpL [])
theorem zaqh (ts:List AV)(k d:Int)(xs:List AV)(bad' pl':Int):zazX (Orc.t (Orc.t Orc.z)) ts k d xs bad' pl'=(let z1:=eR 1048577 [0,0] 5 xs; let z2:=[AV.agg [AV.lst false 3 ts,i0 k,i0 d,(zajR xs),i0 bad',i0 pl']]; let z3:=AV.ptr 1048578 [1,0] 0 0; let z4:=(zakx ts k d xs); U1 [z3,i0 2] [z1,(1048578,{ id:=[1,0],obj:=AObj.row false 6 z4 })] (Yt (U1 [z3] [z1,(1048578,{ id:=[1,0],obj:=AObj.row false 6 z4 })] (Yt (Wk (i0 0) (i0 0)/\SameH (hpL [z1,(1048578,{ id:=[1,0],obj:=AObj.row false 6 z2 })]) (hpL [z1,(1048578,{ id:=[1,0],obj:=AObj.row false 6 z2 })])))))):=by kernel_rfl
theorem zaqg (ts:List AV)(k d:Int)(xs:List AV)(k1 k2 d2:Int)(xs2:List AV)(bad2 pl2:Int)(v k3:Int)(bad3 pl3:Int)(b:Bool):zazW (Orc.t (Orc.f Orc.z)) ts k d xs k1 k2 d2 xs2 bad2 pl2 v k3 bad3 pl3 b=(let z1:=AV.ptr 1048578 [1,0] 0 0; let z2:=[AV.agg [AV.lst false 3 ts,i0 k3,i0 (d2-1),AV.slc 1048577 [0,1] 0 (List.length xs2),i0 bad3,i0 pl3]]; let z3:=[AV.agg [AV.lst false 3 ts,i0 k2,i0 d2,AV.slc 1048577 [0,0] 0 (List.length xs2),i0 bad2,i0 pl2]]; let z4:=eR 1048577 [0,0] 5 xs; let z5:=[AV.agg [AV.lst false 3 ts,i0 k1,i0 (d+1),(zajR xs),i0 0,i0 0]]; let z6:=(zakx ts k d xs); U1 [z1,i0 2] [z4,(1048578,{ id:=[1,0],obj:=AObj.row false 6 z6 })] (Yt (U1 [z1] [z4,(1048578,{ id:=[1,0],obj:=AObj.row false 6 z6 })] (Nf (U1 [z1] [z4,(1048578,{ id:=[1,0],obj:=AObj.row false 6 z5 })] (U1 [z1,i0 3] [eR 1048577 [0,0] 5 xs2,(1048578,{ id:=[1,0],obj:=AObj.row false 6 z3 })] (inR IntKind.i64 (d2-1)=true/\Wk (i0 v) (i0 v)/\SameH (hpL [eR 1048577 [0,1] 5 xs2,(1048578,{ id:=[1,0],obj:=AObj.row false 6 z2 })]) (hpL [eR 1048577 [0,1] 5 xs2,(1048578,{ id:=[1,0],obj:=AObj.row false 6 z2 })])))))))):=by kernel_rfl
theorem zavn (ts:List AV)(k d:Int)(xs:List AV)(bad' pl':Int):gAtX (Orc.alt 0 (Orc.f (Orc.alt 1 (Orc.t Orc.z)))) ts k d xs bad' pl'=(let z1:=eR 1048577 [0,0] 5 xs; let z2:=(zakx ts k d xs); let z3:=[AV.agg [AV.lst false 3 ts,i0 k,i0 d,(zajR xs),i0 bad',i0 pl']]; let z4:=AV.ptr 1048578 [1,0] 0 0; U1 [z4,i0 2] [z1,(1048578,{ id:=[1,0],obj:=AObj.row false 6 z2 })] (Nf (U1 (zajQ) [z1,(1048578,{ id:=[1,0],obj:=AObj.row false 6 z2 })] (Yt (U1 [z4,i0 15] [z1,(1048578,{ id:=[1,0],obj:=AObj.row false 6 z2 })] (Wk (i0 0) (i0 0)/\SameH (hpL [z1,(1048578,{ id:=[1,0],obj:=AObj.row false 6 z3 })]) (hpL [z1,(1048578,{ id:=[1,0],obj:=AObj.row false 6 z3 })]))))))):=by kernel_rfl
theorem zaqf (ts:List AV)(k d:Int)(xs:List AV)(bad' pl':Int)(t:ByteArray):zazV (Orc.alt 0 (Orc.f (Orc.alt 1 (Orc.f (Orc.t (Orc.t Orc.z)))))) ts k d xs bad' pl' t=(let z1:=eR 1048577 [0,0] 5 xs; let z2:=(zakx ts k d xs); let z3:=[AV.agg [AV.lst false 3 ts,i0 k,i0 d,(zajR xs),i0 bad',i0 pl']]; let z4:=AV.ptr 1048578 [1,0] 0 0; let z5:=(xHp 0 ts k d xs (0:Int) (0:Int)); let z6:=(List.getD ts (Int.toNat (k+1)) uu); U1 [z4,i0 2] [z1,(1048578,{ id:=[1,0],obj:=AObj.row false 6 z2 })] (Nf (U1 (zajQ) [z1,(1048578,{ id:=[1,0],obj:=AObj.row false 6 z2 })] (Nf ((decide ((0:Int)<=k/\k<(↑(List.length ts):Int))&&(Nat.beq 3 3&&(zaak (Cx.B (cxV (XQn (WX.add (WX.add (zalZ ts k d xs) zaaA (Sp.con [Sp.pure Unit (fun (_:Unit)=>True) (fun (_:Unit)=>[s0 t]) fun (_:Unit)=>b0 false])) zabB (Sp.con [spX [i0 15] z5 { x:=i0 0,σ:=xHp 0 ts k d xs bad' pl',ws:=[1048578] }])) zaab [38,39,49,51,117,119]) 14 zaab)) shN 124 (List.getD ts (Int.toNat k) uu)&&(true||false))))=true/\inR IntKind.i64 (k+1)=true/\(decide ((0:Int)<=k+1/\k+1<(↑(List.length ts):Int))&&(Nat.beq 3 3&&(zaak (Cx.B (cxV (XQn (WX.add (WX.add (zalZ ts k d xs) zaaA (Sp.con [Sp.pure Unit (fun (_:Unit)=>True) (fun (_:Unit)=>[s0 t]) fun (_:Unit)=>b0 false])) zabB (Sp.con [spX [i0 15] z5 { x:=i0 0,σ:=xHp 0 ts k d xs bad' pl',ws:=[1048578] }])) zaab [38,39,49,51,117,119]) 14 zaab)) shN 124 z6&&(true||false))))=true/\(intA (nthA 0 z6) != 2)=true/\∃ (_:Unit),(zanH ts k t)/\Yt (U1 [z4,i0 15] [z1,(1048578,{ id:=[1,0],obj:=AObj.row false 6 z2 })] (Wk (i0 0) (i0 0)/\SameH (hpL [z1,(1048578,{ id:=[1,0],obj:=AObj.row false 6 z3 })]) (hpL [z1,(1048578,{ id:=[1,0],obj:=AObj.row false 6 z3 })])))))))):=by kernel_rfl
theorem zaqe (ts:List AV)(k d:Int)(xs:List AV)(a:Int)(t:ByteArray):zazU (Orc.alt 0 (Orc.f (Orc.alt 1 (Orc.f (Orc.t (Orc.f Orc.z)))))) ts k d xs a t=(let z1:=(Sp.con [spA (rgV (1:Int) a (0:Int) t []) (↑(List.length xs):Int) (xHp 0 ts (k+1) d xs (0:Int) (0:Int)) (xHp 1 ts (k+1) d (xs++[rgV (1:Int) a (0:Int) t []]) (0:Int) (0:Int))]); let z2:=AV.agg [i0 1,i0 a,i0 0,s0 t,AV.lst false 1 []]; let z3:=[AV.agg [AV.lst false 3 ts,i0 (k+1),i0 d,AV.slc 1048577 [0,1] 0 (List.length (xs++[z2])),i0 0,i0 0]]; let z4:=eR 1048577 [0,0] 5 xs; let z5:=AV.ptr 1048578 [1,0] 0 0; let z6:=(List.getD ts (Int.toNat k) uu); let z7:=(zakx ts k d xs); let z8:=(List.getD ts (Int.toNat (k+1)) uu); U1 [z5,i0 2] [z4,(1048578,{ id:=[1,0],obj:=AObj.row false 6 z7 })] (Nf (U1 (zajQ) [z4,(1048578,{ id:=[1,0],obj:=AObj.row false 6 z7 })] (Nf ((decide ((0:Int)<=k/\k<(↑(List.length ts):Int))&&(Nat.beq 3 3&&(zaak (Cx.B (cxV (XQn (WX.add (WX.add (zalZ ts k d xs) zaaA (Sp.con [Sp.pure Unit (fun (_:Unit)=>True) (fun (_:Unit)=>[s0 t]) fun (_:Unit)=>b0 true])) zabG z1) zaab [38,39,49,51,117,119]) 14 zaab)) shN 124 z6&&(true||false))))=true/\inR IntKind.i64 (k+1)=true/\(decide ((0:Int)<=k+1/\k+1<(↑(List.length ts):Int))&&(Nat.beq 3 3&&(zaak (Cx.B (cxV (XQn (WX.add (WX.add (zalZ ts k d xs) zaaA (Sp.con [Sp.pure Unit (fun (_:Unit)=>True) (fun (_:Unit)=>[s0 t]) fun (_:Unit)=>b0 true])) zabG z1) zaab [38,39,49,51,117,119]) 14 zaab)) shN 124 z8&&(true||false))))=true/\(intA (nthA 0 z8) != 2)=true/\∃ (_:Unit),(zanH ts k t)/\Nf (inR IntKind.i64 (k+1)=true/\∃ (_:Unit),(True/\Wks [z5,AV.agg [i0 1,i0 (intA (nthA 1 z6)),i0 0,s0 (strA (nthA 2 z6)),AV.lit (Value.slice none 0 0)]] [z5,z2]/\hpL [z4,(1048578,{ id:=[1,0],obj:=AObj.row false 6 (zapl ts k d xs) })]=hpL [z4,(1048578,{ id:=[1,0],obj:=AObj.row false 6 (zapl ts k d xs) })])/\Wk (i0 (↑(List.length xs):Int)) (i0 (↑(List.length xs):Int))/\SameH (hpL [eR 1048577 [0,1] 5 (xs++[z2]),(1048578,{ id:=[1,0],obj:=AObj.row false 6 z3 })]) (hpL [eR 1048577 [0,1] 5 (xs++[z2]),(1048578,{ id:=[1,0],obj:=AObj.row false 6 z3 })]))))))):=by kernel_rfl
theorem zaql (ts:List AV)(k d:Int)(xs:List AV)(bad' pl':Int)(t:ByteArray):zaz1 (Orc.alt 0 (Orc.f (Orc.alt 1 (Orc.f (Orc.f (Orc.t Orc.z)))))) ts k d xs bad' pl' t=(let z1:=eR 1048577 [0,0] 5 xs; let z2:=(zakx ts k d xs); let z3:=[AV.agg [AV.lst false 3 ts,i0 k,i0 d,(zajR xs),i0 bad',i0 pl']]; let z4:=AV.ptr 1048578 [1,0] 0 0; let z5:=(xHp 0 ts k d xs (0:Int) (0:Int)); let z6:=(List.getD ts (Int.toNat (k+1)) uu); U1 [z4,i0 2] [z1,(1048578,{ id:=[1,0],obj:=AObj.row false 6 z2 })] (Nf (U1 (zajQ) [z1,(1048578,{ id:=[1,0],obj:=AObj.row false 6 z2 })] (Nf ((decide ((0:Int)<=k/\k<(↑(List.length ts):Int))&&(Nat.beq 3 3&&(zaak (Cx.B (cxV (XQn (WX.add (WX.add (zalZ ts k d xs) zaa9 (Sp.con [Sp.pure Unit (fun (_:Unit)=>True) (fun (_:Unit)=>[s0 t]) fun (_:Unit)=>AV.tup [i0 (-1:Int),b0 false]])) zabB (Sp.con [spX [i0 15] z5 { x:=i0 0,σ:=xHp 0 ts k d xs bad' pl',ws:=[1048578] }])) zaab [38,39,49,51,117,119]) 14 zaab)) shN 124 (List.getD ts (Int.toNat k) uu)&&(true||false))))=true/\inR IntKind.i64 (k+1)=true/\(decide ((0:Int)<=k+1/\k+1<(↑(List.length ts):Int))&&(Nat.beq 3 3&&(zaak (Cx.B (cxV (XQn (WX.add (WX.add (zalZ ts k d xs) zaa9 (Sp.con [Sp.pure Unit (fun (_:Unit)=>True) (fun (_:Unit)=>[s0 t]) fun (_:Unit)=>AV.tup [i0 (-1:Int),b0 false]])) zabB (Sp.con [spX [i0 15] z5 { x:=i0 0,σ:=xHp 0 ts k d xs bad' pl',ws:=[1048578] }])) zaab [38,39,49,51,117,119]) 14 zaab)) shN 124 z6&&(true||false))))=true/\(intA (nthA 0 z6) != 2)=false/\∃ (_:Unit),(zanH ts k t)/\Yt (U1 [z4,i0 15] [z1,(1048578,{ id:=[1,0],obj:=AObj.row false 6 z2 })] (Wk (i0 0) (i0 0)/\SameH (hpL [z1,(1048578,{ id:=[1,0],obj:=AObj.row false 6 z3 })]) (hpL [z1,(1048578,{ id:=[1,0],obj:=AObj.row false 6 z3 })])))))))):=by kernel_rfl
theorem zaqi (ts:List AV)(k d:Int)(xs:List AV)(bad' pl':Int)(t:ByteArray)(n:Int)(b:Bool):zazY (Orc.alt 0 (Orc.f (Orc.alt 1 (Orc.f (Orc.f (Orc.f (Orc.t Orc.z))))))) ts k d xs bad' pl' t n b=(let z1:=eR 1048577 [0,0] 5 xs; let z2:=(Sp.con [spD false (xHp 0 ts (k+1) d xs (0:Int) (0:Int)) (xHp 0 ts (k+1) d xs bad' pl')]); let z3:=[AV.agg [AV.lst false 3 ts,i0 (k+1),i0 d,(zajR xs),i0 bad',i0 pl']]; let z4:=AV.ptr 1048578 [1,0] 0 0; let z5:=(zakx ts k d xs); let z6:=(List.getD ts (Int.toNat (k+1)) uu); U1 [z4,i0 2] [z1,(1048578,{ id:=[1,0],obj:=AObj.row false 6 z5 })] (Nf (U1 (zajQ) [z1,(1048578,{ id:=[1,0],obj:=AObj.row false 6 z5 })] (Nf ((decide ((0:Int)<=k/\k<(↑(List.length ts):Int))&&(Nat.beq 3 3&&(zaak (Cx.B (cxV (XQn (WX.add (WX.add (zalZ ts k d xs) zaa9 (Sp.con [Sp.pure Unit (fun (_:Unit)=>True) (fun (_:Unit)=>[s0 t]) fun (_:Unit)=>AV.tup [i0 n,b0 b]])) zaaq z2) zaab [38,39,49,51,117,119]) 14 zaab)) shN 124 (List.getD ts (Int.toNat k) uu)&&(true||false))))=true/\inR IntKind.i64 (k+1)=true/\(decide ((0:Int)<=k+1/\k+1<(↑(List.length ts):Int))&&(Nat.beq 3 3&&(zaak (Cx.B (cxV (XQn (WX.add (WX.add (zalZ ts k d xs) zaa9 (Sp.con [Sp.pure Unit (fun (_:Unit)=>True) (fun (_:Unit)=>[s0 t]) fun (_:Unit)=>AV.tup [i0 n,b0 b]])) zaaq z2) zaab [38,39,49,51,117,119]) 14 zaab)) shN 124 z6&&(true||false))))=true/\(intA (nthA 0 z6) != 2)=false/\∃ (_:Unit),(zanH ts k t)/\decide (n<0)=false/\inR IntKind.i64 (k+1)=true/\U1 [z4] [z1,(1048578,{ id:=[1,0],obj:=AObj.row false 6 (zapl ts k d xs) })] (Yt (Wk (i0 0) (i0 0)/\SameH (hpL [z1,(1048578,{ id:=[1,0],obj:=AObj.row false 6 z3 })]) (hpL [z1,(1048578,{ id:=[1,0],obj:=AObj.row false 6 z3 })])))))))):=by kernel_rfl
theorem zaqk (ts:List AV)(k d:Int)(xs:List AV)(t:ByteArray)(a k1:Int)(k3 bad3 pl3:Int)(b:Bool):zaz0 (Orc.alt 0 (Orc.f (Orc.alt 1 (Orc.f (Orc.f (Orc.f (Orc.f (Orc.f (Orc.f (Orc.f (Orc.f Orc.z))))))))))) ts k d xs t a k1 k3 bad3 pl3 b=(let z1:=(Sp.con [spA (rgV (10:Int) a (0:Int) t []) (↑(List.length xs):Int) (xHp 0 ts k3 (d+1-(1:Int)) xs bad3 pl3) (xHp 1 ts k3 (d+1-(1:Int)) (xs++[rgV (10:Int) a (0:Int) t []]) bad3 pl3)]); let z2:=AV.agg [i0 10,i0 a,i0 0,s0 t,AV.lst false 1 []]; let z3:=eR 1048577 [0,0] 5 xs; let z4:=AV.ptr 1048578 [1,0] 0 0; let z5:=[AV.agg [AV.lst false 3 ts,i0 k3,i0 (d+1-(1:Int)),AV.slc 1048577 [0,1] 0 (List.length (xs++[z2])),i0 bad3,i0 pl3]]; let z6:=[AV.agg [AV.lst false 3 ts,i0 k3,i0 (d+1-(1:Int)),(zajR xs),i0 bad3,i0 pl3]]; let z7:=[AV.agg [AV.lst false 3 ts,i0 k1,i0 (d+1),(zajR xs),i0 0,i0 0]]; let z8:=(List.getD ts (Int.toNat k) uu); let z9:=(xHp 0 ts k1 (d+1) xs (0:Int) (0:Int)); let z10:=(zakx ts k d xs); let z11:=(List.getD ts (Int.toNat (k+1)) uu); U1 [z4,i0 2] [z3,(1048578,{ id:=[1,0],obj:=AObj.row false 6 z10 })] (Nf (U1 (zajQ) [z3,(1048578,{ id:=[1,0],obj:=AObj.row false 6 z10 })] (Nf ((decide ((0:Int)<=k/\k<(↑(List.length ts):Int))&&(Nat.beq 3 3&&(zaak (Cx.B (cxV (XQn (WX.add (WX.add (WX.add (WX.add (zalZ ts k d xs) zaa9 (Sp.con [Sp.pure Unit (fun (_:Unit)=>True) (fun (_:Unit)=>[s0 t]) fun (_:Unit)=>AV.tup [i0 0,b0 false]])) zaaq (zasa ts k d xs k1)) zabp (Sp.con [spX [i0 3] z9 { x:=b0 b,σ:=xHp 0 ts k3 (d+1) xs bad3 pl3,ws:=[1048578] }])) zabG z1) zaab [38,39,49,51,117,119]) 14 zaab)) shN 124 z8&&(true||false))))=true/\inR IntKind.i64 (k+1)=true/\(decide ((0:Int)<=k+1/\k+1<(↑(List.length ts):Int))&&(Nat.beq 3 3&&(zaak (Cx.B (cxV (XQn (WX.add (WX.add (WX.add (WX.add (zalZ ts k d xs) zaa9 (Sp.con [Sp.pure Unit (fun (_:Unit)=>True) (fun (_:Unit)=>[s0 t]) fun (_:Unit)=>AV.tup [i0 0,b0 false]])) zaaq (zasa ts k d xs k1)) zabp (Sp.con [spX [i0 3] z9 { x:=b0 b,σ:=xHp 0 ts k3 (d+1) xs bad3 pl3,ws:=[1048578] }])) zabG z1) zaab [38,39,49,51,117,119]) 14 zaab)) shN 124 z11&&(true||false))))=true/\(intA (nthA 0 z11) != 2)=false/\∃ (_:Unit),(zanH ts k t)/\Nf (inR IntKind.i64 (k+1)=true/\U1 [z4] [z3,(1048578,{ id:=[1,0],obj:=AObj.row false 6 (zapl ts k d xs) })] (Nf4 (Nf (U1 [z4,i0 3] [z3,(1048578,{ id:=[1,0],obj:=AObj.row false 6 z7 })] (inR IntKind.i64 (d+1-(1:Int))=true/\∃ (_:Unit),(True/\Wks [z4,AV.agg [i0 10,i0 (intA (nthA 1 z8)),i0 0,s0 (strA (nthA 2 z8)),AV.lit (Value.slice none 0 0)]] [z4,z2]/\hpL [z3,(1048578,{ id:=[1,0],obj:=AObj.row false 6 z6 })]=hpL [z3,(1048578,{ id:=[1,0],obj:=AObj.row false 6 z6 })])/\Wk (i0 (↑(List.length xs):Int)) (i0 (↑(List.length xs):Int))/\SameH (hpL [eR 1048577 [0,1] 5 (xs++[z2]),(1048578,{ id:=[1,0],obj:=AObj.row false 6 z5 })]) (hpL [eR 1048577 [0,1] 5 (xs++[z2]),(1048578,{ id:=[1,0],obj:=AObj.row false 6 z5 })]))))))))))):=by kernel_rfl
theorem zaqj (ts:List AV)(k d:Int)(xs:List AV)(t:ByteArray)(a k1:Int)(k2 d2:Int)(xs2:List AV)(bad2 pl2:Int)(v k3:Int)(bad3 pl3:Int)(b:Bool):zazZ (Orc.alt 0 (Orc.f (Orc.alt 1 (Orc.f (Orc.f (Orc.f (Orc.f (Orc.t (Orc.f (Orc.f (Orc.f Orc.z))))))))))) ts k d xs t a k1 k2 d2 xs2 bad2 pl2 v k3 bad3 pl3 b=(let z1:=[AV.agg [AV.lst false 3 ts,i0 k,i0 d,AV.slc 1048577 [0,0] 0 (List.length xs),i0 0,i0 0]]; let z2:=AV.ptr 1048578 [1,0] 0 0; let z3:=AV.agg [i0 10,i0 a,i0 0,s0 t,AV.lst false 1 [i0 v]]; let z4:=(Sp.con [spA (rgV (10:Int) a (0:Int) t [i0 v]) (↑(List.length xs2):Int) (xHp 0 ts k3 (d2-1) xs2 bad3 pl3) (xHp 1 ts k3 (d2-1) (xs2++[rgV (10:Int) a (0:Int) t [i0 v]]) bad3 pl3)]); let z5:=(WX.add XB fXIs (Sp.con [spI (2:Int) false (xHp 0 ts k d xs (0:Int) (0:Int)),spI (1:Int) true (xHp 0 ts k d xs (0:Int) (0:Int))])); let z6:=eR 1048577 [0,0] 5 xs; let z7:=(xHp 0 ts k1 (d+1) xs (0:Int) (0:Int)); let z8:=AV.lst false 3 ts; let z9:=AV.slc 1048577 [0,0] 0 (List.length xs2); let z10:=AV.slc 1048577 [0,0] 0 (List.length xs); let z11:=[AV.agg [z8,i0 k3,i0 (d2-1),AV.slc 1048577 [0,1] 0 (List.length (xs2++[z3])),i0 bad3,i0 pl3]]; let z12:=(List.getD ts (Int.toNat k) uu); let z13:=(Sp.con [spD true (xHp 0 ts (k+1) d xs (0:Int) (0:Int)) z7]); let z14:=eR 1048577 [0,0] 5 xs2; let z15:=[AV.agg [z8,i0 k3,i0 (d2-1),z9,i0 bad3,i0 pl3]]; let z16:=(Sp.con [spV v z7 (xHp 1 ts k2 d2 xs2 bad2 pl2)]); let z17:=[AV.agg [z8,i0 k1,i0 (d+1),z10,i0 0,i0 0]]; let z18:=[AV.agg [z8,i0 (k+1),i0 d,z10,i0 0,i0 0]]; let z19:=[AV.agg [z8,i0 k2,i0 d2,z9,i0 bad2,i0 pl2]]; let z20:=(List.getD ts (Int.toNat (k+1)) uu); U1 [z2,i0 2] [z6,(1048578,{ id:=[1,0],obj:=AObj.row false 6 z1 })] (Nf (U1 [z2,i0 1] [z6,(1048578,{ id:=[1,0],obj:=AObj.row false 6 z1 })] (Nf ((decide ((0:Int)<=k/\k<(↑(List.length ts):Int))&&(Nat.beq 3 3&&(zaak (Cx.B (cxV (XQn (WX.add (WX.add (WX.add (WX.add (WX.add z5 zaa9 (Sp.con [Sp.pure Unit (fun (_:Unit)=>True) (fun (_:Unit)=>[s0 t]) fun (_:Unit)=>AV.tup [i0 1,b0 false]])) zaaq z13) zaan z16) zabp (Sp.con [spX [i0 3] (xHp 0 ts k2 d2 xs2 bad2 pl2) { x:=b0 b,σ:=xHp 0 ts k3 d2 xs2 bad3 pl3,ws:=[1048578] }])) zabG z4) zaab [38,39,49,51,117,119]) 14 zaab)) shN 124 z12&&(true||false))))=true/\inR IntKind.i64 (k+1)=true/\(decide ((0:Int)<=k+1/\k+1<(↑(List.length ts):Int))&&(Nat.beq 3 3&&(zaak (Cx.B (cxV (XQn (WX.add (WX.add (WX.add (WX.add (WX.add z5 zaa9 (Sp.con [Sp.pure Unit (fun (_:Unit)=>True) (fun (_:Unit)=>[s0 t]) fun (_:Unit)=>AV.tup [i0 1,b0 false]])) zaaq z13) zaan z16) zabp (Sp.con [spX [i0 3] (xHp 0 ts k2 d2 xs2 bad2 pl2) { x:=b0 b,σ:=xHp 0 ts k3 d2 xs2 bad3 pl3,ws:=[1048578] }])) zabG z4) zaab [38,39,49,51,117,119]) 14 zaab)) shN 124 z20&&(true||false))))=true/\(intA (nthA 0 z20) != 2)=false/\∃ (_:Unit),(True/\Wks [s0 (strA (nthA 2 z12))] [s0 t]/\hpL []=hpL [])/\Nf (inR IntKind.i64 (k+1)=true/\U1 [z2] [z6,(1048578,{ id:=[1,0],obj:=AObj.row false 6 z18 })] (Nf (Yt (U1 [z2] [z6,(1048578,{ id:=[1,0],obj:=AObj.row false 6 z17 })] (Nf (Nf (Nf (U1 [z2,i0 3] [z14,(1048578,{ id:=[1,0],obj:=AObj.row false 6 z19 })] (inR IntKind.i64 (d2-1)=true/\∃ (_:Unit),(True/\Wks [z2,AV.agg [i0 10,i0 (intA (nthA 1 z12)),i0 0,s0 (strA (nthA 2 z12)),AV.lst true 1 [i0 v]]] [z2,z3]/\hpL [z14,(1048578,{ id:=[1,0],obj:=AObj.row false 6 z15 })]=hpL [z14,(1048578,{ id:=[1,0],obj:=AObj.row false 6 z15 })])/\Wk (i0 (↑(List.length xs2):Int)) (i0 (↑(List.length xs2):Int))/\SameH (hpL [eR 1048577 [0,1] 5 (xs2++[z3]),(1048578,{ id:=[1,0],obj:=AObj.row false 6 z11 })]) (hpL [eR 1048577 [0,1] 5 (xs2++[z3]),(1048578,{ id:=[1,0],obj:=AObj.row false 6 z11 })]))))))))))))))):=by kernel_rfl
theorem zam2 (ts:List AV)(k d:Int)(xs:List AV)(t:ByteArray)(a k1:Int)(k2 d2:Int)(xs2:List AV)(bad2 pl2:Int)(v k3:Int)(bad3 pl3:Int)(k4 bad4 pl4:Int)(b:Bool):zavp (Orc.alt 0 (Orc.f (Orc.alt 1 (Orc.f (Orc.f (Orc.f (Orc.f (Orc.t (Orc.t (Orc.t (Orc.alt 0 (Orc.f (Orc.alt 1 Orc.z))))))))))))) ts k d xs t a k1 k2 d2 xs2 bad2 pl2 v k3 bad3 pl3 k4 bad4 pl4 b=(let z1:=AV.ptr 1048578 [1,0] 0 0; let z2:=[AV.agg [AV.lst false 3 ts,i0 k,i0 d,AV.slc 1048577 [0,0] 0 (List.length xs),i0 0,i0 0]]; let z3:=AV.agg [i0 10,i0 a,i0 0,s0 t,AV.lst false 1 [i0 v]]; let z4:=(Sp.con [spA (rgV (10:Int) a (0:Int) t [i0 v]) (↑(List.length xs2):Int) (xHp 0 ts k3 (d2-1) xs2 bad3 pl3) (xHp 1 ts k3 (d2-1) (xs2++[rgV (10:Int) a (0:Int) t [i0 v]]) bad3 pl3)]); let z5:=AV.slc 1048577 [0,0] 0 (List.length xs2); let z6:=AV.lst false 3 ts; let z7:=(WX.add XB fXIs (Sp.con [spI (2:Int) false (xHp 0 ts k d xs (0:Int) (0:Int)),spI (1:Int) true (xHp 0 ts k d xs (0:Int) (0:Int))])); let z8:=eR 1048577 [0,0] 5 xs; let z9:=(xHp 0 ts k1 (d+1) xs (0:Int) (0:Int)); let z10:=AV.slc 1048577 [0,0] 0 (List.length xs); let z11:=[AV.agg [z6,i0 k3,i0 (d2-1),AV.slc 1048577 [0,1] 0 (List.length (xs2++[z3])),i0 bad3,i0 pl3]]; let z12:=eR 1048577 [0,0] 5 xs2; let z13:=(List.getD ts (Int.toNat k) uu); let z14:=(Sp.con [spD true (xHp 0 ts (k+1) d xs (0:Int) (0:Int)) z9]); let z15:=[AV.agg [z6,i0 k3,i0 (d2-1),z5,i0 bad3,i0 pl3]]; let z16:=(Sp.con [spV v z9 (xHp 1 ts k2 d2 xs2 bad2 pl2)]); let z17:=[AV.agg [z6,i0 k1,i0 (d+1),z10,i0 0,i0 0]]; let z18:=[AV.agg [z6,i0 (k+1),i0 d,z10,i0 0,i0 0]]; let z19:=[AV.agg [z6,i0 k2,i0 d2,z5,i0 bad2,i0 pl2]]; let z20:=[AV.agg [z6,i0 k4,i0 d2,z5,i0 bad4,i0 pl4]]; let z21:=(List.getD ts (Int.toNat (k+1)) uu); U1 [z1,i0 2] [z8,(1048578,{ id:=[1,0],obj:=AObj.row false 6 z2 })] (Nf (U1 [z1,i0 1] [z8,(1048578,{ id:=[1,0],obj:=AObj.row false 6 z2 })] (Nf ((decide ((0:Int)<=k/\k<(↑(List.length ts):Int))&&(Nat.beq 3 3&&(zaak (Cx.B (cxV (XQn (WX.add (WX.add (WX.add (WX.add (WX.add z7 zaa9 (Sp.con [Sp.pure Unit (fun (_:Unit)=>True) (fun (_:Unit)=>[s0 t]) fun (_:Unit)=>AV.tup [i0 1,b0 true]])) zaaq z14) zaan z16) zabp (Sp.con [spX [i0 4] (xHp 0 ts k2 d2 xs2 bad2 pl2) { x:=b0 false,σ:=xHp 0 ts k4 d2 xs2 bad4 pl4,ws:=[1048578] },spX [i0 3] (xHp 0 ts k4 d2 xs2 bad4 pl4) { x:=b0 b,σ:=xHp 0 ts k3 d2 xs2 bad3 pl3,ws:=[1048578] }])) zabG z4) zaab [38,39,49,51,117,119]) 14 zaab)) shN 124 z13&&(true||false))))=true/\inR IntKind.i64 (k+1)=true/\(decide ((0:Int)<=k+1/\k+1<(↑(List.length ts):Int))&&(Nat.beq 3 3&&(zaak (Cx.B (cxV (XQn (WX.add (WX.add (WX.add (WX.add (WX.add z7 zaa9 (Sp.con [Sp.pure Unit (fun (_:Unit)=>True) (fun (_:Unit)=>[s0 t]) fun (_:Unit)=>AV.tup [i0 1,b0 true]])) zaaq z14) zaan z16) zabp (Sp.con [spX [i0 4] (xHp 0 ts k2 d2 xs2 bad2 pl2) { x:=b0 false,σ:=xHp 0 ts k4 d2 xs2 bad4 pl4,ws:=[1048578] },spX [i0 3] (xHp 0 ts k4 d2 xs2 bad4 pl4) { x:=b0 b,σ:=xHp 0 ts k3 d2 xs2 bad3 pl3,ws:=[1048578] }])) zabG z4) zaab [38,39,49,51,117,119]) 14 zaab)) shN 124 z21&&(true||false))))=true/\(intA (nthA 0 z21) != 2)=false/\∃ (_:Unit),(True/\Wks [s0 (strA (nthA 2 z13))] [s0 t]/\hpL []=hpL [])/\Nf (inR IntKind.i64 (k+1)=true/\U1 [z1] [z8,(1048578,{ id:=[1,0],obj:=AObj.row false 6 z18 })] (Nf (Yt (U1 [z1] [z8,(1048578,{ id:=[1,0],obj:=AObj.row false 6 z17 })] (Yt (Yt (U1 [z1,i0 4] [z12,(1048578,{ id:=[1,0],obj:=AObj.row false 6 z19 })] (Nf (U1 [z1,i0 3] [z12,(1048578,{ id:=[1,0],obj:=AObj.row false 6 z20 })] (inR IntKind.i64 (d2-1)=true/\∃ (_:Unit),(True/\Wks [z1,AV.agg [i0 10,i0 (intA (nthA 1 z13)),i0 0,s0 (strA (nthA 2 z13)),AV.lst true 1 [i0 v]]] [z1,z3]/\hpL [z12,(1048578,{ id:=[1,0],obj:=AObj.row false 6 z15 })]=hpL [z12,(1048578,{ id:=[1,0],obj:=AObj.row false 6 z15 })])/\Wk (i0 (↑(List.length xs2):Int)) (i0 (↑(List.length xs2):Int))/\SameH (hpL [eR 1048577 [0,1] 5 (xs2++[z3]),(1048578,{ id:=[1,0],obj:=AObj.row false 6 z11 })]) (hpL [eR 1048577 [0,1] 5 (xs2++[z3]),(1048578,{ id:=[1,0],obj:=AObj.row false 6 z11 })])))))))))))))))):=by kernel_rfl
theorem zam4 (ts:List AV)(k d:Int)(xs:List AV)(t tn:ByteArray)(a m:Int)(k1 k2 d2:Int)(xs2:List AV)(bad2 pl2:Int)(v k3:Int)(bad3 pl3:Int)(k4 bad' pl':Int):zavr (Orc.alt 0 (Orc.f (Orc.alt 1 (Orc.f (Orc.f (Orc.f (Orc.f (Orc.t (Orc.t (Orc.t (Orc.t (Orc.alt 2 (Orc.t (Orc.t (Orc.t (Orc.t Orc.z)))))))))))))))) ts k d xs t tn a m k1 k2 d2 xs2 bad2 pl2 v k3 bad3 pl3 k4 bad' pl'=(let z1:=(WX.add XB fXIs (Sp.con [spI (2:Int) false (xHp 0 ts k d xs (0:Int) (0:Int)),spI (1:Int) true (xHp 0 ts k d xs (0:Int) (0:Int)),spI (1:Int) false (xHp 0 ts k4 d2 xs2 (0:Int) (0:Int))])); let z2:=AV.ptr 1048578 [1,0] 0 0; let z3:=(Sp.con [spV v (xHp 0 ts k1 (d+1) xs (0:Int) (0:Int)) (xHp 1 ts k2 d2 xs2 bad2 pl2)]); let z4:=eR 1048577 [0,0] 5 xs; let z5:=[AV.agg [AV.lst false 3 ts,i0 k2,i0 d2,AV.slc 1048577 [0,0] 0 (List.length xs2),i0 bad2,i0 pl2]]; let z6:=[AV.agg [AV.lst false 3 ts,i0 k4,i0 d2,AV.slc 1048577 [0,1] 0 (List.length xs2),i0 bad',i0 pl']]; let z7:=eR 1048577 [0,0] 5 xs2; let z8:=(xHp 0 ts k4 d2 xs2 (0:Int) (0:Int)); let z9:=[AV.agg [AV.lst false 3 ts,i0 k1,i0 (d+1),(zajR xs),i0 0,i0 0]]; let z10:=(xHp 0 ts k2 d2 xs2 bad2 pl2); let z11:=(zawy ts k4 d2 xs2); let z12:=[38,39,49,51,117,119]; let z13:=(↑(List.length ts):Int); let z14:=(zakx ts k d xs); let z15:=(List.getD ts (Int.toNat (k+1)) uu); let z16:=(zasa ts k d xs k1); U1 [z2,i0 2] [z4,(1048578,{ id:=[1,0],obj:=AObj.row false 6 z14 })] (Nf (U1 (zajQ) [z4,(1048578,{ id:=[1,0],obj:=AObj.row false 6 z14 })] (Nf ((decide ((0:Int)<=k/\k<z13)&&(Nat.beq 3 3&&(zaak (Cx.B (cxV (XQn (WX.add (WX.add (WX.add (WX.add (WX.add (WX.add z1 zaa9 (Sp.con [Sp.pure Unit (fun (_:Unit)=>True) (fun (_:Unit)=>[s0 t]) fun (_:Unit)=>AV.tup [i0 1,b0 true]])) zaaq z16) zaan z3) zabp (Sp.con [spX [i0 4] z10 { x:=b0 true,σ:=xHp 0 ts k4 d2 xs2 (0:Int) (0:Int),ws:=[1048578] }])) zaag (Sp.con [Sp.pure Unit (fun (_:Unit)=>True) (fun (_:Unit)=>[s0 tn]) fun (_:Unit)=>i0 m])) zabB (Sp.con [spX [i0 15] z8 { x:=i0 0,σ:=xHp 0 ts k4 d2 xs2 bad' pl',ws:=[1048578] }])) zaab z12) 14 zaab)) shN 124 (List.getD ts (Int.toNat k) uu)&&(true||false))))=true/\inR IntKind.i64 (k+1)=true/\(decide ((0:Int)<=k+1/\k+1<z13)&&(Nat.beq 3 3&&(zaak (Cx.B (cxV (XQn (WX.add (WX.add (WX.add (WX.add (WX.add (WX.add z1 zaa9 (Sp.con [Sp.pure Unit (fun (_:Unit)=>True) (fun (_:Unit)=>[s0 t]) fun (_:Unit)=>AV.tup [i0 1,b0 true]])) zaaq z16) zaan z3) zabp (Sp.con [spX [i0 4] z10 { x:=b0 true,σ:=xHp 0 ts k4 d2 xs2 (0:Int) (0:Int),ws:=[1048578] }])) zaag (Sp.con [Sp.pure Unit (fun (_:Unit)=>True) (fun (_:Unit)=>[s0 tn]) fun (_:Unit)=>i0 m])) zabB (Sp.con [spX [i0 15] z8 { x:=i0 0,σ:=xHp 0 ts k4 d2 xs2 bad' pl',ws:=[1048578] }])) zaab z12) 14 zaab)) shN 124 z15&&(true||false))))=true/\(intA (nthA 0 z15) != 2)=false/\∃ (_:Unit),(zanH ts k t)/\Nf (inR IntKind.i64 (k+1)=true/\U1 [z2] [z4,(1048578,{ id:=[1,0],obj:=AObj.row false 6 (zapl ts k d xs) })] (Nf (Yt (U1 [z2] [z4,(1048578,{ id:=[1,0],obj:=AObj.row false 6 z9 })] (Yt (Yt (U1 [z2,i0 4] [z7,(1048578,{ id:=[1,0],obj:=AObj.row false 6 z5 })] (Yt ((decide ((0:Int)<=k4/\k4<z13)&&(Nat.beq 3 3&&(zaak (Cx.B (cxV (XQn (WX.add (WX.add (WX.add (WX.add (WX.add (WX.add z1 zaa9 (Sp.con [Sp.pure Unit (fun (_:Unit)=>True) (fun (_:Unit)=>[s0 t]) fun (_:Unit)=>AV.tup [i0 1,b0 true]])) zaaq z16) zaan z3) zabp (Sp.con [spX [i0 4] z10 { x:=b0 true,σ:=xHp 0 ts k4 d2 xs2 (0:Int) (0:Int),ws:=[1048578] }])) zaag (Sp.con [Sp.pure Unit (fun (_:Unit)=>True) (fun (_:Unit)=>[s0 tn]) fun (_:Unit)=>i0 m])) zabB (Sp.con [spX [i0 15] z8 { x:=i0 0,σ:=xHp 0 ts k4 d2 xs2 bad' pl',ws:=[1048578] }])) zaab z12) 14 zaab)) shN 124 (List.getD ts (Int.toNat k4) uu)&&(true||false))))=true/\∃ (_:Unit),(True/\Wks [s0 (strA (nthA 2 (List.getD ts (Int.toNat k4) uu)))] [s0 tn]/\hpL []=hpL [])/\U1 (zajQ) [z7,(1048578,{ id:=[1,0],obj:=AObj.row false 6 z11 })] (Yt4 (U1 [z2,i0 15] [z7,(1048578,{ id:=[1,0],obj:=AObj.row false 6 z11 })] (Wk (i0 0) (i0 0)/\SameH (hpL [eR 1048577 [0,1] 5 xs2,(1048578,{ id:=[1,0],obj:=AObj.row false 6 z6 })]) (hpL [eR 1048577 [0,1] 5 xs2,(1048578,{ id:=[1,0],obj:=AObj.row false 6 z6 })])))))))))))))))))):=by kernel_rfl
theorem zam3 (ts:List AV)(k d:Int)(xs:List AV)(t tn:ByteArray)(a m:Int)(k1 k2 d2:Int)(xs2:List AV)(bad2 pl2:Int)(v k3:Int)(bad3 pl3:Int)(k4 bad' pl':Int):zavq (Orc.alt 0 (Orc.f (Orc.alt 1 (Orc.f (Orc.f (Orc.f (Orc.f (Orc.t (Orc.t (Orc.t (Orc.t (Orc.alt 2 (Orc.f (Orc.f (Orc.f (Orc.t Orc.z)))))))))))))))) ts k d xs t tn a m k1 k2 d2 xs2 bad2 pl2 v k3 bad3 pl3 k4 bad' pl'=(let z1:=AV.ptr 1048578 [1,0] 0 0; let z2:=(Sp.con [spV v (xHp 0 ts k1 (d+1) xs (0:Int) (0:Int)) (xHp 1 ts k2 d2 xs2 bad2 pl2)]); let z3:=eR 1048577 [0,0] 5 xs; let z4:=[AV.agg [AV.lst false 3 ts,i0 k2,i0 d2,AV.slc 1048577 [0,0] 0 (List.length xs2),i0 bad2,i0 pl2]]; let z5:=[AV.agg [AV.lst false 3 ts,i0 k4,i0 d2,AV.slc 1048577 [0,1] 0 (List.length xs2),i0 bad',i0 pl']]; let z6:=eR 1048577 [0,0] 5 xs2; let z7:=(xHp 0 ts k4 d2 xs2 (0:Int) (0:Int)); let z8:=[AV.agg [AV.lst false 3 ts,i0 k1,i0 (d+1),(zajR xs),i0 0,i0 0]]; let z9:=(xHp 0 ts k2 d2 xs2 bad2 pl2); let z10:=(zawy ts k4 d2 xs2); let z11:=(zayn ts k d xs k4 d2 xs2); let z12:=[38,39,49,51,117,119]; let z13:=(↑(List.length ts):Int); let z14:=(zakx ts k d xs); let z15:=(List.getD ts (Int.toNat (k+1)) uu); let z16:=(zasa ts k d xs k1); U1 [z1,i0 2] [z3,(1048578,{ id:=[1,0],obj:=AObj.row false 6 z14 })] (Nf (U1 (zajQ) [z3,(1048578,{ id:=[1,0],obj:=AObj.row false 6 z14 })] (Nf ((decide ((0:Int)<=k/\k<z13)&&(Nat.beq 3 3&&(zaak (Cx.B (cxV (XQn (WX.add (WX.add (WX.add (WX.add (WX.add (WX.add z11 zaa9 (Sp.con [Sp.pure Unit (fun (_:Unit)=>True) (fun (_:Unit)=>[s0 t]) fun (_:Unit)=>AV.tup [i0 1,b0 true]])) zaaq z16) zaan z2) zabp (Sp.con [spX [i0 4] z9 { x:=b0 true,σ:=xHp 0 ts k4 d2 xs2 (0:Int) (0:Int),ws:=[1048578] }])) zaag (Sp.con [Sp.pure Unit (fun (_:Unit)=>True) (fun (_:Unit)=>[s0 tn]) fun (_:Unit)=>i0 m])) zabB (Sp.con [spX [i0 15] z7 { x:=i0 0,σ:=xHp 0 ts k4 d2 xs2 bad' pl',ws:=[1048578] }])) zaab z12) 14 zaab)) shN 124 (List.getD ts (Int.toNat k) uu)&&(true||false))))=true/\inR IntKind.i64 (k+1)=true/\(decide ((0:Int)<=k+1/\k+1<z13)&&(Nat.beq 3 3&&(zaak (Cx.B (cxV (XQn (WX.add (WX.add (WX.add (WX.add (WX.add (WX.add z11 zaa9 (Sp.con [Sp.pure Unit (fun (_:Unit)=>True) (fun (_:Unit)=>[s0 t]) fun (_:Unit)=>AV.tup [i0 1,b0 true]])) zaaq z16) zaan z2) zabp (Sp.con [spX [i0 4] z9 { x:=b0 true,σ:=xHp 0 ts k4 d2 xs2 (0:Int) (0:Int),ws:=[1048578] }])) zaag (Sp.con [Sp.pure Unit (fun (_:Unit)=>True) (fun (_:Unit)=>[s0 tn]) fun (_:Unit)=>i0 m])) zabB (Sp.con [spX [i0 15] z7 { x:=i0 0,σ:=xHp 0 ts k4 d2 xs2 bad' pl',ws:=[1048578] }])) zaab z12) 14 zaab)) shN 124 z15&&(true||false))))=true/\(intA (nthA 0 z15) != 2)=false/\∃ (_:Unit),(zanH ts k t)/\Nf (inR IntKind.i64 (k+1)=true/\U1 [z1] [z3,(1048578,{ id:=[1,0],obj:=AObj.row false 6 (zapl ts k d xs) })] (Nf (Yt (U1 [z1] [z3,(1048578,{ id:=[1,0],obj:=AObj.row false 6 z8 })] (Yt (Yt (U1 [z1,i0 4] [z6,(1048578,{ id:=[1,0],obj:=AObj.row false 6 z4 })] (Yt ((decide ((0:Int)<=k4/\k4<z13)&&(Nat.beq 3 3&&(zaak (Cx.B (cxV (XQn (WX.add (WX.add (WX.add (WX.add (WX.add (WX.add z11 zaa9 (Sp.con [Sp.pure Unit (fun (_:Unit)=>True) (fun (_:Unit)=>[s0 t]) fun (_:Unit)=>AV.tup [i0 1,b0 true]])) zaaq z16) zaan z2) zabp (Sp.con [spX [i0 4] z9 { x:=b0 true,σ:=xHp 0 ts k4 d2 xs2 (0:Int) (0:Int),ws:=[1048578] }])) zaag (Sp.con [Sp.pure Unit (fun (_:Unit)=>True) (fun (_:Unit)=>[s0 tn]) fun (_:Unit)=>i0 m])) zabB (Sp.con [spX [i0 15] z7 { x:=i0 0,σ:=xHp 0 ts k4 d2 xs2 bad' pl',ws:=[1048578] }])) zaab z12) 14 zaab)) shN 124 (List.getD ts (Int.toNat k4) uu)&&(true||false))))=true/\∃ (_:Unit),(True/\Wks [s0 (strA (nthA 2 (List.getD ts (Int.toNat k4) uu)))] [s0 tn]/\hpL []=hpL [])/\U1 (zajQ) [z6,(1048578,{ id:=[1,0],obj:=AObj.row false 6 z10 })] (Nf (Nf (Nf (decide (m<0)=true/\U1 [z1,i0 15] [z6,(1048578,{ id:=[1,0],obj:=AObj.row false 6 z10 })] (Wk (i0 0) (i0 0)/\SameH (hpL [eR 1048577 [0,1] 5 xs2,(1048578,{ id:=[1,0],obj:=AObj.row false 6 z5 })]) (hpL [eR 1048577 [0,1] 5 xs2,(1048578,{ id:=[1,0],obj:=AObj.row false 6 z5 })])))))))))))))))))))):=by kernel_rfl
theorem zam1 (ts:List AV)(k d:Int)(xs:List AV)(t tn:ByteArray)(a m:Int)(k1 k2 d2:Int)(xs2:List AV)(bad2 pl2:Int)(v k3:Int)(bad3 pl3 k4:Int)(b:Bool):zavo (Orc.alt 0 (Orc.f (Orc.alt 1 (Orc.f (Orc.f (Orc.f (Orc.f (Orc.t (Orc.t (Orc.t (Orc.alt 0 (Orc.t (Orc.alt 2 (Orc.f (Orc.f (Orc.f (Orc.f (Orc.alt 1 Orc.z)))))))))))))))))) ts k d xs t tn a m k1 k2 d2 xs2 bad2 pl2 v k3 bad3 pl3 k4 b=(let z1:=(Sp.con [spA (rgV (10:Int) a m t [i0 v]) (↑(List.length xs2):Int) (xHp 0 ts k3 (d2-1) xs2 bad3 pl3) (xHp 1 ts k3 (d2-1) (xs2++[rgV (10:Int) a m t [i0 v]]) bad3 pl3)]); let z2:=AV.ptr 1048578 [1,0] 0 0; let z3:=AV.agg [i0 10,i0 a,i0 m,s0 t,AV.lst false 1 [i0 v]]; let z4:=AV.slc 1048577 [0,0] 0 (List.length xs2); let z5:=(Sp.con [spV v (xHp 0 ts k1 (d+1) xs (0:Int) (0:Int)) (xHp 1 ts k2 d2 xs2 bad2 pl2)]); let z6:=eR 1048577 [0,0] 5 xs2; let z7:=eR 1048577 [0,0] 5 xs; let z8:=AV.lst false 3 ts; let z9:=[AV.agg [z8,i0 k3,i0 (d2-1),AV.slc 1048577 [0,1] 0 (List.length (xs2++[z3])),i0 bad3,i0 pl3]]; let z10:=(xHp 0 ts (k4+1) d2 xs2 (0:Int) (0:Int)); let z11:=(List.getD ts (Int.toNat k) uu); let z12:=[AV.agg [z8,i0 k1,i0 (d+1),(zajR xs),i0 0,i0 0]]; let z13:=(xHp 0 ts k2 d2 xs2 bad2 pl2); let z14:=[AV.agg [z8,i0 k3,i0 (d2-1),z4,i0 bad3,i0 pl3]]; let z15:=(zayn ts k d xs k4 d2 xs2); let z16:=[AV.agg [z8,i0 (k4+1),i0 d2,z4,i0 0,i0 0]]; let z17:=[38,39,49,51,117,119]; let z18:=[AV.agg [z8,i0 k2,i0 d2,z4,i0 bad2,i0 pl2]]; let z19:=(↑(List.length ts):Int); let z20:=(zakx ts k d xs); let z21:=(List.getD ts (Int.toNat (k+1)) uu); let z22:=(zasa ts k d xs k1); U1 [z2,i0 2] [z7,(1048578,{ id:=[1,0],obj:=AObj.row false 6 z20 })] (Nf (U1 (zajQ) [z7,(1048578,{ id:=[1,0],obj:=AObj.row false 6 z20 })] (Nf ((decide ((0:Int)<=k/\k<z19)&&(Nat.beq 3 3&&(zaak (Cx.B (cxV (XQn (WX.add (WX.add (WX.add (WX.add (WX.add (WX.add z15 zaa9 (Sp.con [Sp.pure Unit (fun (_:Unit)=>True) (fun (_:Unit)=>[s0 t]) fun (_:Unit)=>AV.tup [i0 1,b0 true]])) zaaq z22) zaan z5) zabp (Sp.con [spX [i0 4] z13 { x:=b0 true,σ:=xHp 0 ts k4 d2 xs2 (0:Int) (0:Int),ws:=[1048578] },spX [i0 3] z10 { x:=b0 b,σ:=xHp 0 ts k3 d2 xs2 bad3 pl3,ws:=[1048578] }])) zaag (Sp.con [Sp.pure Unit (fun (_:Unit)=>True) (fun (_:Unit)=>[s0 tn]) fun (_:Unit)=>i0 m])) zabG z1) zaab z17) 14 zaab)) shN 124 z11&&(true||false))))=true/\inR IntKind.i64 (k+1)=true/\(decide ((0:Int)<=k+1/\k+1<z19)&&(Nat.beq 3 3&&(zaak (Cx.B (cxV (XQn (WX.add (WX.add (WX.add (WX.add (WX.add (WX.add z15 zaa9 (Sp.con [Sp.pure Unit (fun (_:Unit)=>True) (fun (_:Unit)=>[s0 t]) fun (_:Unit)=>AV.tup [i0 1,b0 true]])) zaaq z22) zaan z5) zabp (Sp.con [spX [i0 4] z13 { x:=b0 true,σ:=xHp 0 ts k4 d2 xs2 (0:Int) (0:Int),ws:=[1048578] },spX [i0 3] z10 { x:=b0 b,σ:=xHp 0 ts k3 d2 xs2 bad3 pl3,ws:=[1048578] }])) zaag (Sp.con [Sp.pure Unit (fun (_:Unit)=>True) (fun (_:Unit)=>[s0 tn]) fun (_:Unit)=>i0 m])) zabG z1) zaab z17) 14 zaab)) shN 124 z21&&(true||false))))=true/\(intA (nthA 0 z21) != 2)=false/\∃ (_:Unit),(zanH ts k t)/\Nf (inR IntKind.i64 (k+1)=true/\U1 [z2] [z7,(1048578,{ id:=[1,0],obj:=AObj.row false 6 (zapl ts k d xs) })] (Nf (Yt (U1 [z2] [z7,(1048578,{ id:=[1,0],obj:=AObj.row false 6 z12 })] (Yt (Yt (U1 [z2,i0 4] [z6,(1048578,{ id:=[1,0],obj:=AObj.row false 6 z18 })] (Yt ((decide ((0:Int)<=k4/\k4<z19)&&(Nat.beq 3 3&&(zaak (Cx.B (cxV (XQn (WX.add (WX.add (WX.add (WX.add (WX.add (WX.add z15 zaa9 (Sp.con [Sp.pure Unit (fun (_:Unit)=>True) (fun (_:Unit)=>[s0 t]) fun (_:Unit)=>AV.tup [i0 1,b0 true]])) zaaq z22) zaan z5) zabp (Sp.con [spX [i0 4] z13 { x:=b0 true,σ:=xHp 0 ts k4 d2 xs2 (0:Int) (0:Int),ws:=[1048578] },spX [i0 3] z10 { x:=b0 b,σ:=xHp 0 ts k3 d2 xs2 bad3 pl3,ws:=[1048578] }])) zaag (Sp.con [Sp.pure Unit (fun (_:Unit)=>True) (fun (_:Unit)=>[s0 tn]) fun (_:Unit)=>i0 m])) zabG z1) zaab z17) 14 zaab)) shN 124 (List.getD ts (Int.toNat k4) uu)&&(true||false))))=true/\∃ (_:Unit),(True/\Wks [s0 (strA (nthA 2 (List.getD ts (Int.toNat k4) uu)))] [s0 tn]/\hpL []=hpL [])/\U1 (zajQ) [z6,(1048578,{ id:=[1,0],obj:=AObj.row false 6 (zawy ts k4 d2 xs2) })] (Nf (Nf (Nf (decide (m<0)=false/\inR IntKind.i64 (k4+1)=true/\U1 [z2,i0 3] [z6,(1048578,{ id:=[1,0],obj:=AObj.row false 6 z16 })] (inR IntKind.i64 (d2-1)=true/\∃ (_:Unit),(True/\Wks [z2,AV.agg [i0 10,i0 (intA (nthA 1 z11)),i0 m,s0 (strA (nthA 2 z11)),AV.lst true 1 [i0 v]]] [z2,z3]/\hpL [z6,(1048578,{ id:=[1,0],obj:=AObj.row false 6 z14 })]=hpL [z6,(1048578,{ id:=[1,0],obj:=AObj.row false 6 z14 })])/\Wk (i0 (↑(List.length xs2):Int)) (i0 (↑(List.length xs2):Int))/\SameH (hpL [eR 1048577 [0,1] 5 (xs2++[z3]),(1048578,{ id:=[1,0],obj:=AObj.row false 6 z9 })]) (hpL [eR 1048577 [0,1] 5 (xs2++[z3]),(1048578,{ id:=[1,0],obj:=AObj.row false 6 z9 })])))))))))))))))))))):=by kernel_rfl
end Go.Proofs.YtpofhijgccocpaaGreatDoor
end
section
namespace Go.Proofs.YtpofhijgccocpaaGreatDoor
open Go.AS Go.TP
noncomputable section
def zazH (os:Orc)(ts:List AV)(k d:Int)(xs:List AV)(bad' pl':Int):Prop :=
 runF (XQn ((XB.add fXIs (Sp.con [spI 5 true (xHp 0 ts k d xs 0 0)])).add zaaq (Sp.con [spD false (xHp 0 ts k d xs 0 0) (xHp 0 ts k d xs bad' pl')])) zaat [17,19,50,52,91,93]) 14 zaat (fn zaat) (code zaat) os 0 [] [xArg] (xHp 0 ts k d xs 0 0) ⟨i0 0,xHp 0 ts k d xs bad' pl',[1048577,1048578]⟩
def zazG (os:Orc)(ts:List AV)(k d:Int)(xs:List AV)(k1 k2 d2:Int)(xs2:List AV)(bad2 pl2 v a:Int):Prop :=
 runF (XQn ((((XB.add fXIs (Sp.con [spI 5 true (xHp 0 ts k d xs 0 0)])).add zaaq (Sp.con [spD true (xHp 0 ts k d xs 0 0) (xHp 0 ts k1 (d+1) xs 0 0)])).add zaab (Sp.con [spV v (xHp 0 ts k1 (d+1) xs 0 0) (xHp 1 ts k2 d2 xs2 bad2 pl2)])).add zabG (Sp.con [spA (rgV 6 a 0 ByteArray.empty [i0 v]) xs2.length (xHp 0 ts k2 (d2-1) xs2 bad2 pl2) (xHp 1 ts k2 (d2-1) (xs2++[(rgV 6 a 0 ByteArray.empty [i0 v])]) bad2 pl2)])) zaat [17,19,50,52,91,93]) 14 zaat (fn zaat) (code zaat) os 0 [1048577] [xArg] (xHp 0 ts k d xs 0 0) ⟨i0 xs2.length,xHp 1 ts k2 (d2-1) (xs2++[(rgV 6 a 0 ByteArray.empty [i0 v])]) bad2 pl2,[1048577,1048578]⟩
def gRaA (os:Orc)(ts:List AV)(k d:Int)(xs:List AV)(ka da:Int)(xsa:List AV)(bada pla va:Int):Prop :=
 runF (XQn ((XB.add fXIs (Sp.con [spI 5 false (xHp 0 ts k d xs 0 0),spI 5 false (xHp 0 ts ka da xsa bada pla),spI 6 false (xHp 0 ts ka da xsa bada pla)])).add zaab (Sp.con [spV va (xHp 0 ts k d xs 0 0) (xHp 1 ts ka da xsa bada pla)])) zaat [17,19,50,52,91,93]) 14 zaat (fn zaat) (code zaat) os 0 [1048577] [xArg] (xHp 0 ts k d xs 0 0) ⟨i0 va,xHp 1 ts ka da xsa bada pla,[1048577,1048578]⟩
def zazK (os:Orc)(ts:List AV)(k d:Int)(xs:List AV)(ka da:Int)(xsa:List AV)(va:Int)(bad' pl':Int):Prop :=
 runF (XQn (((XB.add fXIs (Sp.con [spI 5 false (xHp 0 ts k d xs 0 0),spI 5 true (xHp 0 ts ka da xsa 0 0)])).add zaab (Sp.con [spV va (xHp 0 ts k d xs 0 0) (xHp 1 ts ka da xsa 0 0)])).add zaaq (Sp.con [spD false (xHp 0 ts ka da xsa 0 0) (xHp 0 ts ka da xsa bad' pl')])) zaat [17,19,50,52,91,93]) 14 zaat (fn zaat) (code zaat) os 0 [1048577] [xArg] (xHp 0 ts k d xs 0 0) ⟨i0 0,xHp 1 ts ka da xsa bad' pl',[1048577,1048578]⟩
def zazL (os:Orc)(ts:List AV)(k d:Int)(xs:List AV)(ka da:Int)(xsa:List AV)(va:Int)(k1 a:Int):Prop :=
 runF (XQn ((((XB.add fXIs (Sp.con [spI 5 false (xHp 0 ts k d xs 0 0),spI 5 true (xHp 0 ts ka da xsa 0 0),spI 2 false (xHp 0 ts k1 (da+1) xsa 0 0),spI 1 false (xHp 0 ts k1 (da+1) xsa 0 0)])).add zaab (Sp.con [spV va (xHp 0 ts k d xs 0 0) (xHp 1 ts ka da xsa 0 0)])).add zaaq (Sp.con [spD true (xHp 0 ts ka da xsa 0 0) (xHp 0 ts k1 (da+1) xsa 0 0)])).add zabG (Sp.con [spA (rgV 7 a 0 ByteArray.empty [i0 va]) xsa.length (xHp 0 ts k1 (da+1-1) xsa 0 0) (xHp 1 ts k1 (da+1-1) (xsa++[(rgV 7 a 0 ByteArray.empty [i0 va])]) 0 0)])) zaat [17,19,50,52,91,93]) 14 zaat (fn zaat) (code zaat) os 0 [1048577] [xArg] (xHp 0 ts k d xs 0 0) ⟨i0 xsa.length,xHp 1 ts k1 (da+1-1) (xsa++[(rgV 7 a 0 ByteArray.empty [i0 va])]) 0 0,[1048577,1048578]⟩
def zazJ (os:Orc)(ts:List AV)(k d:Int)(xs:List AV)(ka da:Int)(xsa:List AV)(va:Int)(k1 k2 d2:Int)(xs2:List AV)(bad2 pl2 v a:Int):Prop :=
 runF (XQn ((((XB.add fXIs (Sp.con [spI 5 false (xHp 0 ts k d xs 0 0),spI 5 true (xHp 0 ts ka da xsa 0 0),spI 2 true (xHp 0 ts k1 (da+1) xsa 0 0)])).add zaab (Sp.con [spV va (xHp 0 ts k d xs 0 0) (xHp 1 ts ka da xsa 0 0),spV v (xHp 0 ts k1 (da+1) xsa 0 0) (xHp 1 ts k2 d2 xs2 bad2 pl2)])).add zaaq (Sp.con [spD true (xHp 0 ts ka da xsa 0 0) (xHp 0 ts k1 (da+1) xsa 0 0)])).add zabG (Sp.con [spA (rgV 8 a 0 ByteArray.empty [i0 va,i0 v]) xs2.length (xHp 0 ts k2 (d2-1) xs2 bad2 pl2) (xHp 1 ts k2 (d2-1) (xs2++[(rgV 8 a 0 ByteArray.empty [i0 va,i0 v])]) bad2 pl2)])) zaat [17,19,50,52,91,93]) 14 zaat (fn zaat) (code zaat) os 0 [1048577] [xArg] (xHp 0 ts k d xs 0 0) ⟨i0 xs2.length,xHp 1 ts k2 (d2-1) (xs2++[(rgV 8 a 0 ByteArray.empty [i0 va,i0 v])]) bad2 pl2,[1048577,1048578]⟩
def zazI (os:Orc)(ts:List AV)(k d:Int)(xs:List AV)(ka da:Int)(xsa:List AV)(va:Int)(k1 k2 d2:Int)(xs2:List AV)(bad2 pl2 v a:Int):Prop :=
 runF (XQn ((((XB.add fXIs (Sp.con [spI 5 false (xHp 0 ts k d xs 0 0),spI 5 true (xHp 0 ts ka da xsa 0 0),spI 2 false (xHp 0 ts k1 (da+1) xsa 0 0),spI 1 true (xHp 0 ts k1 (da+1) xsa 0 0)])).add zaab (Sp.con [spV va (xHp 0 ts k d xs 0 0) (xHp 1 ts ka da xsa 0 0),spV v (xHp 0 ts k1 (da+1) xsa 0 0) (xHp 1 ts k2 d2 xs2 bad2 pl2)])).add zaaq (Sp.con [spD true (xHp 0 ts ka da xsa 0 0) (xHp 0 ts k1 (da+1) xsa 0 0)])).add zabG (Sp.con [spA (rgV 8 a 0 ByteArray.empty [i0 va,i0 v]) xs2.length (xHp 0 ts k2 (d2-1) xs2 bad2 pl2) (xHp 1 ts k2 (d2-1) (xs2++[(rgV 8 a 0 ByteArray.empty [i0 va,i0 v])]) bad2 pl2)])) zaat [17,19,50,52,91,93]) 14 zaat (fn zaat) (code zaat) os 0 [1048577] [xArg] (xHp 0 ts k d xs 0 0) ⟨i0 xs2.length,xHp 1 ts k2 (d2-1) (xs2++[(rgV 8 a 0 ByteArray.empty [i0 va,i0 v])]) bad2 pl2,[1048577,1048578]⟩
def gRaO (os:Orc)(ts:List AV)(k d:Int)(xs:List AV)(ka da:Int)(xsa:List AV)(va:Int)(k2 d2:Int)(xs2:List AV)(bad2 pl2 v a:Int):Prop :=
 runF (XQn (((XB.add fXIs (Sp.con [spI 5 false (xHp 0 ts k d xs 0 0),spI 5 false (xHp 0 ts ka da xsa 0 0),spI 6 true (xHp 0 ts ka da xsa 0 0)])).add zaab (Sp.con [spV va (xHp 0 ts k d xs 0 0) (xHp 1 ts ka da xsa 0 0),spV v (xHp 0 ts (ka+1) da xsa 0 0) (xHp 1 ts k2 d2 xs2 bad2 pl2)])).add zabG (Sp.con [spA (rgV 9 a 0 ByteArray.empty [i0 va,i0 v]) xs2.length (xHp 0 ts k2 d2 xs2 bad2 pl2) (xHp 1 ts k2 d2 (xs2++[(rgV 9 a 0 ByteArray.empty [i0 va,i0 v])]) bad2 pl2)])) zaat [17,19,50,52,91,93]) 14 zaat (fn zaat) (code zaat) os 0 [1048577] [xArg] (xHp 0 ts k d xs 0 0) ⟨i0 xs2.length,xHp 1 ts k2 d2 (xs2++[(rgV 9 a 0 ByteArray.empty [i0 va,i0 v])]) bad2 pl2,[1048577,1048578]⟩
end
end Go.Proofs.YtpofhijgccocpaaGreatDoor
end
section
namespace Go.Proofs.YtpofhijgccocpaaGreatDoor
open Go Go.AS Go.TP
noncomputable abbrev zaqO (ts:List AV) (k:Int) (d:Int) (xs:List AV):=[AV.agg [AV.lst false 3 ts,i0 k,i0 d,AV.slc 1048577 [0,0] 0 (List.length xs),i0 0,i0 0]]
noncomputable abbrev zawz (ts:List AV) (ka:Int) (da:Int) (xsa:List AV):=[AV.agg [AV.lst false 3 ts,i0 ka,i0 da,AV.slc 1048577 [0,0] 0 (List.length xsa),i0 0,i0 0]]
theorem zapU (ts:List AV)(k d:Int)(xs:List AV)(bad' pl':Int):zazH (Orc.t (Orc.t Orc.z)) ts k d xs bad' pl'=(let z1:=[AV.agg [AV.lst false 3 ts,i0 k,i0 d,AV.slc 1048577 [0,0] 0 (List.length xs),i0 bad',i0 pl']]; let z2:=eR 1048577 [0,0] 5 xs; let z3:=AV.ptr 1048578 [1,0] 0 0; let z4:=(zaqO ts k d xs); let z5:=(xHp 0 ts k d xs (0:Int) (0:Int)); U1 [z3,i0 5] [z2,(1048578,{ id:=[1,0],obj:=AObj.row false 6 z4 })] (Yt ((decide ((0:Int)<=k/\k<(↑(List.length ts):Int))&&(Nat.beq 3 3&&(zaak (Cx.B (cxV (XQn (WX.add (WX.add XB fXIs (Sp.con [spI (5:Int) true z5])) zaaq (Sp.con [spD false z5 (xHp 0 ts k d xs bad' pl')])) zaat [17,19,50,52,91,93]) 14 zaat)) shN 124 (List.getD ts (Int.toNat k) uu)&&(true||false))))=true/\U1 [z3] [z2,(1048578,{ id:=[1,0],obj:=AObj.row false 6 z4 })] (Yt (Wk (i0 0) (i0 0)/\SameH (hpL [z2,(1048578,{ id:=[1,0],obj:=AObj.row false 6 z1 })]) (hpL [z2,(1048578,{ id:=[1,0],obj:=AObj.row false 6 z1 })])))))):=by kernel_rfl
theorem zapT (ts:List AV)(k d:Int)(xs:List AV)(k1 k2 d2:Int)(xs2:List AV)(bad2 pl2:Int)(v a:Int):zazG (Orc.t (Orc.f Orc.z)) ts k d xs k1 k2 d2 xs2 bad2 pl2 v a=(let z1:=AV.agg [i0 6,i0 a,i0 0,s0 ByteArray.empty,AV.lst false 1 [i0 v]]; let z2:=AV.ptr 1048578 [1,0] 0 0; let z3:=[AV.agg [AV.lst false 3 ts,i0 k2,i0 (d2-1),AV.slc 1048577 [0,1] 0 (List.length (xs2++[z1])),i0 bad2,i0 pl2]]; let z4:=[AV.agg [AV.lst false 3 ts,i0 k2,i0 (d2-1),AV.slc 1048577 [0,0] 0 (List.length xs2),i0 bad2,i0 pl2]]; let z5:=[AV.agg [AV.lst false 3 ts,i0 k1,i0 (d+1),AV.slc 1048577 [0,0] 0 (List.length xs),i0 0,i0 0]]; let z6:=eR 1048577 [0,0] 5 xs; let z7:=(↑(List.length xs2):Int); let z8:=(xHp 0 ts k1 (d+1) xs (0:Int) (0:Int)); let z9:=(zaqO ts k d xs); let z10:=(xHp 0 ts k d xs (0:Int) (0:Int)); U1 [z2,i0 5] [z6,(1048578,{ id:=[1,0],obj:=AObj.row false 6 z9 })] (Yt ((decide ((0:Int)<=k/\k<(↑(List.length ts):Int))&&(Nat.beq 3 3&&(zaak (Cx.B (cxV (XQn (WX.add (WX.add (WX.add (WX.add XB fXIs (Sp.con [spI (5:Int) true z10])) zaaq (Sp.con [spD true z10 z8])) zaab (Sp.con [spV v z8 (xHp 1 ts k2 d2 xs2 bad2 pl2)])) zabG (Sp.con [spA (rgV (6:Int) a (0:Int) ByteArray.empty [i0 v]) z7 (xHp 0 ts k2 (d2-1) xs2 bad2 pl2) (xHp 1 ts k2 (d2-1) (xs2++[rgV (6:Int) a (0:Int) ByteArray.empty [i0 v]]) bad2 pl2)])) zaat [17,19,50,52,91,93]) 14 zaat)) shN 124 (List.getD ts (Int.toNat k) uu)&&(true||false))))=true/\U1 [z2] [z6,(1048578,{ id:=[1,0],obj:=AObj.row false 6 z9 })] (Nf (U1 [z2] [z6,(1048578,{ id:=[1,0],obj:=AObj.row false 6 z5 })] (inR IntKind.i64 (d2-1)=true/\∃ (_:Unit),(True/\Wks [z2,AV.agg [i0 6,i0 (intA (nthA 1 (List.getD ts (Int.toNat k) uu))),i0 0,s0 ⟨⟨[]⟩⟩,AV.lst true 1 [i0 v]]] [z2,z1]/\hpL [eR 1048577 [0,0] 5 xs2,(1048578,{ id:=[1,0],obj:=AObj.row false 6 z4 })]=hpL [eR 1048577 [0,0] 5 xs2,(1048578,{ id:=[1,0],obj:=AObj.row false 6 z4 })])/\Wk (i0 z7) (i0 z7)/\SameH (hpL [eR 1048577 [0,1] 5 (xs2++[z1]),(1048578,{ id:=[1,0],obj:=AObj.row false 6 z3 })]) (hpL [eR 1048577 [0,1] 5 (xs2++[z1]),(1048578,{ id:=[1,0],obj:=AObj.row false 6 z3 })]))))))):=by kernel_rfl
theorem zauk (ts:List AV)(k d:Int)(xs:List AV)(ka da:Int)(xsa:List AV)(bada pla va:Int):gRaA (Orc.alt 0 (Orc.f (Orc.alt 1 (Orc.f (Orc.alt 2 (Orc.f Orc.z)))))) ts k d xs ka da xsa bada pla va=(let z1:=[AV.agg [AV.lst false 3 ts,i0 ka,i0 da,AV.slc 1048577 [0,0] 0 (List.length xsa),i0 bada,i0 pla]]; let z2:=AV.ptr 1048578 [1,0] 0 0; let z3:=[AV.agg [AV.lst false 3 ts,i0 ka,i0 da,AV.slc 1048577 [0,1] 0 (List.length xsa),i0 bada,i0 pla]]; let z4:=eR 1048577 [0,0] 5 xsa; let z5:=eR 1048577 [0,0] 5 xs; let z6:=(zaqO ts k d xs); U1 [z2,i0 5] [z5,(1048578,{ id:=[1,0],obj:=AObj.row false 6 z6 })] (Nf (U1 [z2] [z5,(1048578,{ id:=[1,0],obj:=AObj.row false 6 z6 })] (U1 [z2,i0 5] [z4,(1048578,{ id:=[1,0],obj:=AObj.row false 6 z1 })] (Nf (U1 [z2,i0 6] [z4,(1048578,{ id:=[1,0],obj:=AObj.row false 6 z1 })] (Nf (Wk (i0 va) (i0 va)/\SameH (hpL [eR 1048577 [0,1] 5 xsa,(1048578,{ id:=[1,0],obj:=AObj.row false 6 z3 })]) (hpL [eR 1048577 [0,1] 5 xsa,(1048578,{ id:=[1,0],obj:=AObj.row false 6 z3 })]))))))))):=by kernel_rfl
theorem zapX (ts:List AV)(k d:Int)(xs:List AV)(ka da:Int)(xsa:List AV)(va bad' pl':Int):zazK (Orc.alt 0 (Orc.f (Orc.alt 1 (Orc.t (Orc.t Orc.z))))) ts k d xs ka da xsa va bad' pl'=(let z1:=AV.ptr 1048578 [1,0] 0 0; let z2:=[AV.agg [AV.lst false 3 ts,i0 ka,i0 da,AV.slc 1048577 [0,1] 0 (List.length xsa),i0 bad',i0 pl']]; let z3:=eR 1048577 [0,0] 5 xsa; let z4:=eR 1048577 [0,0] 5 xs; let z5:=(zawz ts ka da xsa); let z6:=(zaqO ts k d xs); let z7:=(xHp 0 ts ka da xsa (0:Int) (0:Int)); let z8:=(xHp 0 ts k d xs (0:Int) (0:Int)); U1 [z1,i0 5] [z4,(1048578,{ id:=[1,0],obj:=AObj.row false 6 z6 })] (Nf (U1 [z1] [z4,(1048578,{ id:=[1,0],obj:=AObj.row false 6 z6 })] (U1 [z1,i0 5] [z3,(1048578,{ id:=[1,0],obj:=AObj.row false 6 z5 })] (Yt ((decide ((0:Int)<=ka/\ka<(↑(List.length ts):Int))&&(Nat.beq 3 3&&(zaak (Cx.B (cxV (XQn (WX.add (WX.add (WX.add XB fXIs (Sp.con [spI (5:Int) false z8,spI (5:Int) true z7])) zaab (Sp.con [spV va z8 (xHp 1 ts ka da xsa (0:Int) (0:Int))])) zaaq (Sp.con [spD false z7 (xHp 0 ts ka da xsa bad' pl')])) zaat [17,19,50,52,91,93]) 14 zaat)) shN 124 (List.getD ts (Int.toNat ka) uu)&&(true||false))))=true/\U1 [z1] [z3,(1048578,{ id:=[1,0],obj:=AObj.row false 6 z5 })] (Yt (Wk (i0 0) (i0 0)/\SameH (hpL [eR 1048577 [0,1] 5 xsa,(1048578,{ id:=[1,0],obj:=AObj.row false 6 z2 })]) (hpL [eR 1048577 [0,1] 5 xsa,(1048578,{ id:=[1,0],obj:=AObj.row false 6 z2 })]))))))))):=by kernel_rfl
theorem zapY (ts:List AV)(k d:Int)(xs:List AV)(ka da:Int)(xsa:List AV)(va k1 a:Int):zazL (Orc.alt 0 (Orc.f (Orc.alt 1 (Orc.t (Orc.f (Orc.alt 2 (Orc.f (Orc.f (Orc.alt 3 (Orc.f Orc.z)))))))))) ts k d xs ka da xsa va k1 a=(let z1:=[AV.agg [AV.lst false 3 ts,i0 k1,i0 (da+1),AV.slc 1048577 [0,0] 0 (List.length xsa),i0 0,i0 0]]; let z2:=AV.ptr 1048578 [1,0] 0 0; let z3:=AV.agg [i0 7,i0 a,i0 0,s0 ByteArray.empty,AV.lst false 1 [i0 va]]; let z4:=eR 1048577 [0,0] 5 xsa; let z5:=[AV.agg [AV.lst false 3 ts,i0 k1,i0 (da+1-(1:Int)),AV.slc 1048577 [0,1] 0 (List.length (xsa++[z3])),i0 0,i0 0]]; let z6:=[AV.agg [AV.lst false 3 ts,i0 k1,i0 (da+1-(1:Int)),AV.slc 1048577 [0,0] 0 (List.length xsa),i0 0,i0 0]]; let z7:=(xHp 0 ts k1 (da+1) xsa (0:Int) (0:Int)); let z8:=eR 1048577 [0,0] 5 xs; let z9:=(zawz ts ka da xsa); let z10:=(↑(List.length xsa):Int); let z11:=(zaqO ts k d xs); let z12:=(xHp 0 ts ka da xsa (0:Int) (0:Int)); let z13:=(xHp 0 ts k d xs (0:Int) (0:Int)); let z14:=(da+1-(1:Int)); U1 [z2,i0 5] [z8,(1048578,{ id:=[1,0],obj:=AObj.row false 6 z11 })] (Nf (U1 [z2] [z8,(1048578,{ id:=[1,0],obj:=AObj.row false 6 z11 })] (U1 [z2,i0 5] [z4,(1048578,{ id:=[1,0],obj:=AObj.row false 6 z9 })] (Yt ((decide ((0:Int)<=ka/\ka<(↑(List.length ts):Int))&&(Nat.beq 3 3&&(zaak (Cx.B (cxV (XQn (WX.add (WX.add (WX.add (WX.add XB fXIs (Sp.con [spI (5:Int) false z13,spI (5:Int) true z12,spI (2:Int) false z7,spI (1:Int) false z7])) zaab (Sp.con [spV va z13 (xHp 1 ts ka da xsa (0:Int) (0:Int))])) zaaq (Sp.con [spD true z12 z7])) zabG (Sp.con [spA (rgV (7:Int) a (0:Int) ByteArray.empty [i0 va]) z10 (xHp 0 ts k1 z14 xsa (0:Int) (0:Int)) (xHp 1 ts k1 z14 (xsa++[rgV (7:Int) a (0:Int) ByteArray.empty [i0 va]]) (0:Int) (0:Int))])) zaat [17,19,50,52,91,93]) 14 zaat)) shN 124 (List.getD ts (Int.toNat ka) uu)&&(true||false))))=true/\U1 [z2] [z4,(1048578,{ id:=[1,0],obj:=AObj.row false 6 z9 })] (Nf (U1 [z2,i0 2] [z4,(1048578,{ id:=[1,0],obj:=AObj.row false 6 z1 })] (Nf (Nf (U1 [z2,i0 1] [z4,(1048578,{ id:=[1,0],obj:=AObj.row false 6 z1 })] (Nf (inR IntKind.i64 z14=true/\∃ (_:Unit),(True/\Wks [z2,AV.agg [i0 7,i0 (intA (nthA 1 (List.getD ts (Int.toNat ka) uu))),i0 0,s0 ⟨⟨[]⟩⟩,AV.lst true 1 [i0 va]]] [z2,z3]/\hpL [z4,(1048578,{ id:=[1,0],obj:=AObj.row false 6 z6 })]=hpL [z4,(1048578,{ id:=[1,0],obj:=AObj.row false 6 z6 })])/\Wk (i0 z10) (i0 z10)/\SameH (hpL [eR 1048577 [0,1] 5 (xsa++[z3]),(1048578,{ id:=[1,0],obj:=AObj.row false 6 z5 })]) (hpL [eR 1048577 [0,1] 5 (xsa++[z3]),(1048578,{ id:=[1,0],obj:=AObj.row false 6 z5 })])))))))))))))):=by kernel_rfl
theorem zapW (ts:List AV)(k d:Int)(xs:List AV)(ka da:Int)(xsa:List AV)(va k1:Int)(k2 d2:Int)(xs2:List AV)(bad2 pl2:Int)(v a:Int):zazJ (Orc.alt 0 (Orc.f (Orc.alt 0 (Orc.alt 1 (Orc.t (Orc.f (Orc.alt 2 (Orc.t (Orc.t (Orc.t (Orc.alt 1 Orc.z))))))))))) ts k d xs ka da xsa va k1 k2 d2 xs2 bad2 pl2 v a=(let z1:=[AV.agg [AV.lst false 3 ts,i0 k1,i0 (da+1),AV.slc 1048577 [0,0] 0 (List.length xsa),i0 0,i0 0]]; let z2:=AV.agg [i0 8,i0 a,i0 0,s0 ByteArray.empty,AV.lst false 1 [i0 va,i0 v]]; let z3:=[AV.agg [AV.lst false 3 ts,i0 ka,i0 da,AV.slc 1048577 [0,0] 0 (List.length xsa),i0 0,i0 0]]; let z4:=AV.ptr 1048578 [1,0] 0 0; let z5:=[AV.agg [AV.lst false 3 ts,i0 k,i0 d,AV.slc 1048577 [0,0] 0 (List.length xs),i0 0,i0 0]]; let z6:=eR 1048577 [0,0] 5 xsa; let z7:=[AV.agg [AV.lst false 3 ts,i0 k2,i0 (d2-1),AV.slc 1048577 [0,1] 0 (List.length (xs2++[z2])),i0 bad2,i0 pl2]]; let z8:=[AV.agg [AV.lst false 3 ts,i0 k2,i0 (d2-1),AV.slc 1048577 [0,0] 0 (List.length xs2),i0 bad2,i0 pl2]]; let z9:=(xHp 0 ts k1 (da+1) xsa (0:Int) (0:Int)); let z10:=eR 1048577 [0,0] 5 xs; let z11:=(↑(List.length xs2):Int); let z12:=(xHp 0 ts ka da xsa (0:Int) (0:Int)); let z13:=(xHp 0 ts k d xs (0:Int) (0:Int)); U1 [z4,i0 5] [z10,(1048578,{ id:=[1,0],obj:=AObj.row false 6 z5 })] (Nf (U1 [z4] [z10,(1048578,{ id:=[1,0],obj:=AObj.row false 6 z5 })] (U1 [z4,i0 5] [z6,(1048578,{ id:=[1,0],obj:=AObj.row false 6 z3 })] (Yt ((decide ((0:Int)<=ka/\ka<(↑(List.length ts):Int))&&(Nat.beq 3 3&&(zaak (Cx.B (cxV (XQn (WX.add (WX.add (WX.add (WX.add XB fXIs (Sp.con [spI (5:Int) false z13,spI (5:Int) true z12,spI (2:Int) true z9])) zaab (Sp.con [spV va z13 (xHp 1 ts ka da xsa (0:Int) (0:Int)),spV v z9 (xHp 1 ts k2 d2 xs2 bad2 pl2)])) zaaq (Sp.con [spD true z12 z9])) zabG (Sp.con [spA (rgV (8:Int) a (0:Int) ByteArray.empty [i0 va,i0 v]) z11 (xHp 0 ts k2 (d2-1) xs2 bad2 pl2) (xHp 1 ts k2 (d2-1) (xs2++[rgV (8:Int) a (0:Int) ByteArray.empty [i0 va,i0 v]]) bad2 pl2)])) zaat [17,19,50,52,91,93]) 14 zaat)) shN 124 (List.getD ts (Int.toNat ka) uu)&&(true||false))))=true/\U1 [z4] [z6,(1048578,{ id:=[1,0],obj:=AObj.row false 6 z3 })] (Nf (U1 [z4,i0 2] [z6,(1048578,{ id:=[1,0],obj:=AObj.row false 6 z1 })] (Yt (Yt (Yt (U1 [z4] [z6,(1048578,{ id:=[1,0],obj:=AObj.row false 6 z1 })] (inR IntKind.i64 (d2-1)=true/\∃ (_:Unit),(True/\Wks [z4,AV.agg [i0 8,i0 (intA (nthA 1 (List.getD ts (Int.toNat ka) uu))),i0 0,s0 ⟨⟨[]⟩⟩,AV.lst true 1 [i0 va,i0 v]]] [z4,z2]/\hpL [eR 1048577 [0,0] 5 xs2,(1048578,{ id:=[1,0],obj:=AObj.row false 6 z8 })]=hpL [eR 1048577 [0,0] 5 xs2,(1048578,{ id:=[1,0],obj:=AObj.row false 6 z8 })])/\Wk (i0 z11) (i0 z11)/\SameH (hpL [eR 1048577 [0,1] 5 (xs2++[z2]),(1048578,{ id:=[1,0],obj:=AObj.row false 6 z7 })]) (hpL [eR 1048577 [0,1] 5 (xs2++[z2]),(1048578,{ id:=[1,0],obj:=AObj.row false 6 z7 })])))))))))))))):=by kernel_rfl
theorem zapV (ts:List AV)(k d:Int)(xs:List AV)(ka da:Int)(xsa:List AV)(va k1:Int)(k2 d2:Int)(xs2:List AV)(bad2 pl2:Int)(v a:Int):zazI (Orc.alt 0 (Orc.f (Orc.alt 0 (Orc.alt 1 (Orc.t (Orc.f (Orc.alt 2 (Orc.f (Orc.f (Orc.alt 3 (Orc.t (Orc.alt 1 Orc.z)))))))))))) ts k d xs ka da xsa va k1 k2 d2 xs2 bad2 pl2 v a=(let z1:=[AV.agg [AV.lst false 3 ts,i0 k1,i0 (da+1),AV.slc 1048577 [0,0] 0 (List.length xsa),i0 0,i0 0]]; let z2:=AV.ptr 1048578 [1,0] 0 0; let z3:=AV.agg [i0 8,i0 a,i0 0,s0 ByteArray.empty,AV.lst false 1 [i0 va,i0 v]]; let z4:=[AV.agg [AV.lst false 3 ts,i0 ka,i0 da,AV.slc 1048577 [0,0] 0 (List.length xsa),i0 0,i0 0]]; let z5:=[AV.agg [AV.lst false 3 ts,i0 k,i0 d,AV.slc 1048577 [0,0] 0 (List.length xs),i0 0,i0 0]]; let z6:=eR 1048577 [0,0] 5 xsa; let z7:=(xHp 0 ts k1 (da+1) xsa (0:Int) (0:Int)); let z8:=[AV.agg [AV.lst false 3 ts,i0 k2,i0 (d2-1),AV.slc 1048577 [0,1] 0 (List.length (xs2++[z3])),i0 bad2,i0 pl2]]; let z9:=[AV.agg [AV.lst false 3 ts,i0 k2,i0 (d2-1),AV.slc 1048577 [0,0] 0 (List.length xs2),i0 bad2,i0 pl2]]; let z10:=eR 1048577 [0,0] 5 xs; let z11:=(↑(List.length xs2):Int); let z12:=(xHp 0 ts ka da xsa (0:Int) (0:Int)); let z13:=(xHp 0 ts k d xs (0:Int) (0:Int)); U1 [z2,i0 5] [z10,(1048578,{ id:=[1,0],obj:=AObj.row false 6 z5 })] (Nf (U1 [z2] [z10,(1048578,{ id:=[1,0],obj:=AObj.row false 6 z5 })] (U1 [z2,i0 5] [z6,(1048578,{ id:=[1,0],obj:=AObj.row false 6 z4 })] (Yt ((decide ((0:Int)<=ka/\ka<(↑(List.length ts):Int))&&(Nat.beq 3 3&&(zaak (Cx.B (cxV (XQn (WX.add (WX.add (WX.add (WX.add XB fXIs (Sp.con [spI (5:Int) false z13,spI (5:Int) true z12,spI (2:Int) false z7,spI (1:Int) true z7])) zaab (Sp.con [spV va z13 (xHp 1 ts ka da xsa (0:Int) (0:Int)),spV v z7 (xHp 1 ts k2 d2 xs2 bad2 pl2)])) zaaq (Sp.con [spD true z12 z7])) zabG (Sp.con [spA (rgV (8:Int) a (0:Int) ByteArray.empty [i0 va,i0 v]) z11 (xHp 0 ts k2 (d2-1) xs2 bad2 pl2) (xHp 1 ts k2 (d2-1) (xs2++[rgV (8:Int) a (0:Int) ByteArray.empty [i0 va,i0 v]]) bad2 pl2)])) zaat [17,19,50,52,91,93]) 14 zaat)) shN 124 (List.getD ts (Int.toNat ka) uu)&&(true||false))))=true/\U1 [z2] [z6,(1048578,{ id:=[1,0],obj:=AObj.row false 6 z4 })] (Nf (U1 [z2,i0 2] [z6,(1048578,{ id:=[1,0],obj:=AObj.row false 6 z1 })] (Nf (Nf (U1 [z2,i0 1] [z6,(1048578,{ id:=[1,0],obj:=AObj.row false 6 z1 })] (Yt (U1 [z2] [z6,(1048578,{ id:=[1,0],obj:=AObj.row false 6 z1 })] (inR IntKind.i64 (d2-1)=true/\∃ (_:Unit),(True/\Wks [z2,AV.agg [i0 8,i0 (intA (nthA 1 (List.getD ts (Int.toNat ka) uu))),i0 0,s0 ⟨⟨[]⟩⟩,AV.lst true 1 [i0 va,i0 v]]] [z2,z3]/\hpL [eR 1048577 [0,0] 5 xs2,(1048578,{ id:=[1,0],obj:=AObj.row false 6 z9 })]=hpL [eR 1048577 [0,0] 5 xs2,(1048578,{ id:=[1,0],obj:=AObj.row false 6 z9 })])/\Wk (i0 z11) (i0 z11)/\SameH (hpL [eR 1048577 [0,1] 5 (xs2++[z3]),(1048578,{ id:=[1,0],obj:=AObj.row false 6 z8 })]) (hpL [eR 1048577 [0,1] 5 (xs2++[z3]),(1048578,{ id:=[1,0],obj:=AObj.row false 6 z8 })]))))))))))))))):=by kernel_rfl
theorem zauj (ts:List AV)(k d:Int)(xs:List AV)(ka da:Int)(xsa:List AV)(va k2 d2:Int)(xs2:List AV)(bad2 pl2:Int)(v a:Int):gRaO (Orc.alt 0 (Orc.f (Orc.alt 0 (Orc.alt 1 (Orc.f (Orc.alt 2 (Orc.t (Orc.alt 1 Orc.z)))))))) ts k d xs ka da xsa va k2 d2 xs2 bad2 pl2 v a=(let z1:=AV.agg [i0 9,i0 a,i0 0,s0 ByteArray.empty,AV.lst false 1 [i0 va,i0 v]]; let z2:=AV.ptr 1048578 [1,0] 0 0; let z3:=[AV.agg [AV.lst false 3 ts,i0 k2,i0 d2,AV.slc 1048577 [0,1] 0 (List.length (xs2++[z1])),i0 bad2,i0 pl2]]; let z4:=[AV.agg [AV.lst false 3 ts,i0 (ka+1),i0 da,AV.slc 1048577 [0,0] 0 (List.length xsa),i0 0,i0 0]]; let z5:=[AV.agg [AV.lst false 3 ts,i0 k2,i0 d2,AV.slc 1048577 [0,0] 0 (List.length xs2),i0 bad2,i0 pl2]]; let z6:=eR 1048577 [0,0] 5 xsa; let z7:=eR 1048577 [0,0] 5 xs; let z8:=(zawz ts ka da xsa); let z9:=(↑(List.length xs2):Int); let z10:=(zaqO ts k d xs); let z11:=(xHp 0 ts ka da xsa (0:Int) (0:Int)); let z12:=(xHp 0 ts k d xs (0:Int) (0:Int)); U1 [z2,i0 5] [z7,(1048578,{ id:=[1,0],obj:=AObj.row false 6 z10 })] (Nf (U1 [z2] [z7,(1048578,{ id:=[1,0],obj:=AObj.row false 6 z10 })] (U1 [z2,i0 5] [z6,(1048578,{ id:=[1,0],obj:=AObj.row false 6 z8 })] (Nf (U1 [z2,i0 6] [z6,(1048578,{ id:=[1,0],obj:=AObj.row false 6 z8 })] (Yt ((decide ((0:Int)<=ka/\ka<(↑(List.length ts):Int))&&(Nat.beq 3 3&&(zaak (Cx.B (cxV (XQn (WX.add (WX.add (WX.add XB fXIs (Sp.con [spI (5:Int) false z12,spI (5:Int) false z11,spI (6:Int) true z11])) zaab (Sp.con [spV va z12 (xHp 1 ts ka da xsa (0:Int) (0:Int)),spV v (xHp 0 ts (ka+1) da xsa (0:Int) (0:Int)) (xHp 1 ts k2 d2 xs2 bad2 pl2)])) zabG (Sp.con [spA (rgV (9:Int) a (0:Int) ByteArray.empty [i0 va,i0 v]) z9 (xHp 0 ts k2 d2 xs2 bad2 pl2) (xHp 1 ts k2 d2 (xs2++[rgV (9:Int) a (0:Int) ByteArray.empty [i0 va,i0 v]]) bad2 pl2)])) zaat [17,19,50,52,91,93]) 14 zaat)) shN 124 (List.getD ts (Int.toNat ka) uu)&&(true||false))))=true/\inR IntKind.i64 (ka+1)=true/\U1 [z2] [z6,(1048578,{ id:=[1,0],obj:=AObj.row false 6 z4 })] (∃ (_:Unit),(True/\Wks [z2,AV.agg [i0 9,i0 (intA (nthA 1 (List.getD ts (Int.toNat ka) uu))),i0 0,s0 ⟨⟨[]⟩⟩,AV.lst true 1 [i0 va,i0 v]]] [z2,z1]/\hpL [eR 1048577 [0,0] 5 xs2,(1048578,{ id:=[1,0],obj:=AObj.row false 6 z5 })]=hpL [eR 1048577 [0,0] 5 xs2,(1048578,{ id:=[1,0],obj:=AObj.row false 6 z5 })])/\Wk (i0 z9) (i0 z9)/\SameH (hpL [eR 1048577 [0,1] 5 (xs2++[z1]),(1048578,{ id:=[1,0],obj:=AObj.row false 6 z3 })]) (hpL [eR 1048577 [0,1] 5 (xs2++[z1]),(1048578,{ id:=[1,0],obj:=AObj.row false 6 z3 })])))))))))):=by kernel_rfl
end Go.Proofs.YtpofhijgccocpaaGreatDoor
end
