/- Contracts put together; a law's call. -/
import Derived.Test.YtpofhijgccocpaaGreatDoorAWg
namespace Go.AS
noncomputable section
def zaA2 {β:Type 1}(b:Bool)(x y:β):β:=match b with
 | true=>x
 | false=>y
def WX.add (X:WX)(f:FuncId)(c:Con):WX:={ X with con:=fun g=>zaA2 (Nat.beq g f) (some c) (X.con g) }
variable {X:WX} {f:FuncId} {code:Code}
theorem WX.Sound.add (h:X.Sound){c:Con}(hc:zagZ X.px.P X.px.gl f c):(X.add f c).Sound:=by
 refine ⟨h.px,fun g con hg => ?_,h.lp⟩
 have hg:zaA2 (Nat.beq g f) (some c) (X.con g)=some con:=hg
 cases hb:Nat.beq g f
 · rw [hb] at hg;exact h.con g con hg
 · rw [hb] at hg;cases hg
   obtain rfl:=Nat.eq_of_beq_eq_true hb
   exact hc
def WX.ask (X:WX)(fs:List FuncId):WX:={ X with sy:=fun f d=>hasN fs f&&Nat.ble d 999999 }
def WX.askAt (X:WX)(g:FuncId)(ds:List Nat):WX:={ X with sy:=fun f d=>X.sy f d||(Nat.beq f g&&(Nat.ble 1000000 d&&hasN ds (d-1000000))) }
theorem WX.Sound.askAt (h:X.Sound)(g:FuncId)(ds:List Nat):(X.askAt g ds).Sound:=⟨h.px,h.con,h.lp⟩
theorem WX.Sound.ask (h:X.Sound)(fs:List FuncId):(X.ask fs).Sound:=⟨h.px,h.con,h.lp⟩
def zabW (cur:Option Nat):Code->List (Nat × Code)
 | .seq x y=>zabW none x++zabW none y
 | .cond _ x y=>zabW none x++zabW none y
 | .block i x=>zabW (some i) x
 | .loop x=>(match cur with|some i=>[(i,x)]|none=>[])++zabW none x
 | _=>[]
theorem zamd {p:Nat->Code->Prop}:∀ (code:Code) (cur:Option Nat),(∀ q∈zabW cur code,p q.1 q.2)->Code.loops p cur code:=by
 intro code
 induction code with
 | seq x y hx hy=>intro cur h;exact ⟨hx none fun q hq=>h q (List.mem_append_left _ hq),hy none fun q hq=>h q (List.mem_append_right _ hq)⟩
 | cond o x y hx hy=>intro cur h;exact ⟨hx none fun q hq=>h q (List.mem_append_left _ hq),hy none fun q hq=>h q (List.mem_append_right _ hq)⟩
 | block i x hx=>intro cur h;exact hx (some i) h
 | loop x hx =>
  intro cur h
  refine ⟨?_,hx none fun q hq=>h q (List.mem_append_right _ hq)⟩
  cases cur with
  | none=>trivial
  | some i=>exact h (i,x) (List.mem_append_left _ (List.mem_singleton.2 rfl))
 | _=>intro cur _;trivial
def zaaX (code:Code)(i:Nat):Code:=match (zabW none code).find? fun q=>Nat.beq q.1 i with
 | some q=>q.2
 | none => .skip
def WX.addLp (X:WX)(f:FuncId)(i:Nat)(L:Lp):WX:={ X with lp:=fun g j=>zaA2 (Nat.beq g f&&Nat.beq j i) (some L) (X.lp g j) }
theorem zajy {p q r:Nat->Code->Prop}(h:∀ i x,p i x->q i x->r i x):∀ {code:Code} {cur:Option Nat},Code.loops p cur code->Code.loops q cur code->Code.loops r cur code:=by
 intro code
 induction code with
 | seq x y hx hy=>intro cur h1 h2;exact ⟨hx h1.1 h2.1,hy h1.2 h2.2⟩
 | cond o x y hx hy=>intro cur h1 h2;exact ⟨hx h1.1 h2.1,hy h1.2 h2.2⟩
 | block i x hx=>intro cur h1 h2;exact hx (cur:=some i) h1 h2
 | loop x hx =>
  intro cur h1 h2
  refine ⟨?_,hx h1.2 h2.2⟩
  cases cur with
  | none=>trivial
  | some i=>exact h i x h1.1 h2.1
 | _=>intro cur _ _;trivial
theorem zahD {p:Nat->Code->Prop}(h:∀ i x,p i x)(code:Code)(cur:Option Nat):Code.loops p cur code:=zamd code cur fun q _=>h q.1 q.2
def zajz (code:Code):Bool:=((zabW none code).map (·.1)).all fun i=>Nat.beq (((zabW none code).filter fun q=>Nat.beq q.1 i).length) 1
theorem zawY (h:zajz code=true):∀ q∈zabW none code,q.2=zaaX code q.1:=by
 intro q hq
 have:=List.all_eq_true.1 h q.1 (List.mem_map.2 ⟨q,hq,rfl⟩)
 have h1:((zabW none code).filter fun r=>Nat.beq r.1 q.1).length=1:=Nat.eq_of_beq_eq_true this
 obtain ⟨r,hr⟩:=List.length_eq_one_iff.1 h1
 have hqm:q∈(zabW none code).filter fun r=>Nat.beq r.1 q.1:=List.mem_filter.2 ⟨hq,by simp⟩
 have hfind:(zabW none code).find? (fun r=>Nat.beq r.1 q.1)=some r:=by rw [<-List.head?_filter,hr];rfl
 unfold zaaX
 rw [hfind]
 rw [hr] at hqm
 simp only [List.mem_singleton] at hqm
 rw [hqm]
theorem WX.Sound.addLp (h:X.Sound){fn:Func}(hf:X.px.P.funcs[f]?=some fn)(hb:fn.body=some code)(ho:zajz code=true){i:Nat}{L:Lp}(hL:LpOk X.px.P X.px.gl fn.ntmps (zaaX code i) L):(X.addLp f i L).Sound:=by
 refine ⟨h.px,h.con,fun g fn' code' hg hb' => ?_⟩
 have hold:=h.lp g fn' code' hg hb'
 by_cases hgf:g=f
 · subst hgf
   have e1:fn'=fn:=by
     have h2:X.px.P.funcs[g]?=some fn':=hg
     rw [hf] at h2;exact (Option.some.inj h2).symm
   subst e1
   rw [hb] at hb';cases hb'
   refine zajy (fun j x h1 h2 => ?_) hold (zamd (p:=fun j x=>x=zaaX code j) code none (zawY ho))
   intro L' hL'
   have hL':zaA2 (Nat.beq g g&&Nat.beq j i) (some L) (X.lp g j)=some L':=hL'
   cases hc:Nat.beq g g&&Nat.beq j i
   · rw [hc] at hL';exact h1 L' hL'
   · rw [hc] at hL';cases hL'
     rw [Bool.and_eq_true] at hc
     obtain rfl:=Nat.eq_of_beq_eq_true hc.2
     rw [h2];exact hL
 · refine zajy (fun j x h1 _ => ?_) hold (zahD (p:=fun _ _=>True) (fun _ _=>trivial) _ _)
   intro L' hL'
   have hL':zaA2 (Nat.beq g f&&Nat.beq j i) (some L) (X.lp g j)=some L':=hL'
   have:Nat.beq g f=false:=by
     cases hb2:Nat.beq g f
     · rfl
     · exact absurd (Nat.eq_of_beq_eq_true hb2) hgf
   rw [this,Bool.false_and] at hL'
   exact h1 L' hL'
def WX.base (px:PX):WX:={ px:=px,con:=fun _=>none,sy:=fun _ _=>false,lp:=fun _ _=>none,m:=1000 }
theorem WX.Sound.base {px:PX}(h:px.Sound):(WX.base px).Sound:=⟨h,fun g con hg=>(by cases hg),fun f fn code _ _=>zahD (fun i x L hL=>by cases hL) _ _⟩
def hpL:List (Nat × Ent)->Hp
 | [] => .nil
 | (l,e)::r=>aset (hpL r) l e
def lawW (X:WX)(d:Nat)(f:FuncId)(fn:Func)(code:Code)(os:Orc)(xs:List AV):Prop :=
 bodyV X d f (callV X d) fn code os xs 1 .nil [] fun _ x _ _ _=>x = .lit (.bool true)
theorem zaoD (hX:X.Sound) {d:Nat} {fn:Func} (hf:X.px.P.funcs[f]?=some fn) (hb:fn.body=some code) (hn:(fn.name == "runtime.NumGoroutine")=false) {os:Orc} {xs:List AV} (h:lawW X d f fn code os xs)
  {m:Nat->Option Obj} {w:World} (hm:∀ b o,m b=some o->w.heap[b]?=some o) (hg:∀ g x,X.px.gl g=some x->GV ⟨fun _=>none,m⟩ x g) {vals:List Value} (hv:RR ⟨fun _=>none,m⟩ .vs xs vals) :
  Calls X.px.P f vals.toArray w fun e w'=>e = .returned (.bool true)/\w'.os=w.os/\w'.tape=w.tape/\w'.output=w.output/\w.heap.size<=w'.heap.size/\∀ b,b<w.heap.size->w'.heap[b]?=w.heap[b]?:=by
 have:=bodyV_ok hX (zagT hX d) hf hb hn _ _ _ _ _ _ h ⟨fun _=>none,m⟩ w vals hg ⟨hm,fun l e he=>(by rw [zaax] at he;cases he),fun b hb=>(zal3 hb).elim,fun l l' e e' L L' b h1=>(by rw [zaax] at h1;cases h1)⟩ (fun k _ i _=>rfl) hv
 rcases this with ⟨_,h2⟩|⟨v,w',h1,_⟩
 · refine h2.mono ?_
   rintro e w' ⟨v,rfl,os',x,c',σ',ws',E',rfl,_,k1,k2,k3,_⟩
   have:=k1.lit_inv;subst this
   exact ⟨rfl,k3.os,k3.tape,k3.output,k3.size,fun b hb=>k3.kept b hb zal3⟩
 · have h0:(program).run X.px.P w = .ok X.px.P w:=rfl
   simp only [callFunc,Sem.run_bind,h0,Result.andThen_ok,hf,hn,hb,Option.isNone,Bool.false_eq_true,if_false,Sem.run_pure] at h1
   cases h1
end
end Go.AS
