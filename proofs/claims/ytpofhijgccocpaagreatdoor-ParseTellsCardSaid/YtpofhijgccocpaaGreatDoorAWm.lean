/- Loops by induction: a round, by what is known of the rounds behind it. -/
import Derived.Test.YtpofhijgccocpaaGreatDoorAWl
import Derived.Laws.Strings
namespace Go.AS
noncomputable section
theorem zaov {p:Nat->Code->Prop}:∀ (code:Code) (cur:Option Nat),Code.loops p cur code->∀ q∈zabW cur code,Code.loops p none q.2:=by
 intro code
 induction code with
 | seq x y hx hy =>
  intro cur h q hq
  rcases List.mem_append.1 hq with hq|hq
  · exact hx none h.1 q hq
  · exact hy none h.2 q hq
 | cond o x y hx hy =>
  intro cur h q hq
  rcases List.mem_append.1 hq with hq|hq
  · exact hx none h.1 q hq
  · exact hy none h.2 q hq
 | block i x hx=>intro cur h q hq;exact hx (some i) h q hq
 | loop x hx =>
  intro cur h q hq
  rcases List.mem_append.1 hq with hq|hq
  · cases cur with
    | none=>cases hq
    | some i=>rw [List.mem_singleton.1 hq];exact h.2
  · exact hx none h.2 q hq
 | _=>intro cur _ q hq;cases hq
variable {code:Code} {X:WX} {f:FuncId} {fn:Func} {i:Nat} {σ' σ τ:Hp} {ws:List Nat} {E:Env} {w:World}
theorem zame {p:Nat->Code->Prop}(h:Code.loops p none code)(i:Nat):Code.loops p none (zaaX code i):=by
 unfold zaaX
 split
 · rename_i q hq;exact zaov code none h q (List.mem_of_find?_eq_some hq)
 · trivial
def Lp1 (ins:List Nat)(gh:List (Nat × Nat))(outs:Ex->List Nat)(P:Prop)(xs:List AV)(σ:Hp)(r:Ex × Back):Lp :=
 ⟨ins,gh,outs,Spl.con [⟨Unit,fun _=>P,fun _=>xs,fun _=>σ,fun _=>r⟩]⟩
theorem zad1 (hX:X.Sound) (hf:X.px.P.funcs[f]?=some fn) (hb:fn.body=some code) {L L':Lp} {l:List Spl} (hL:L'.con=Spl.con l) (hn:L'.ins.Nodup)
  (ih:∀ s∈l,∀ j,s.pre j->zab9 X.px.P X.px.gl fn.ntmps (zaaX code i) L'.ins L'.outs (s.args j) (s.heap j) fun _ r=>r=s.out j) {d:Nat} {os:Orc} {fz:Nat} {fc:List Nat} {xs:List AV} {σ:Hp} {r:Ex × Back}
  (h:runL X d f fn.ntmps (zaaX code i) L L' os fz fc xs σ r):zab9 X.px.P X.px.gl fn.ntmps (zaaX code i) L.ins L.outs xs σ fun _ q=>q=r :=
 zaFx hX (zame (hX.lp f fn code hf hb) i) (Spl.ok hL hn ih) h
theorem lp_round1 (hX:X.Sound) (hf:X.px.P.funcs[f]?=some fn) (hb:fn.body=some code) {ins:List Nat} {gh:List (Nat × Nat)} {outs:Ex->List Nat} (hn:ins.Nodup) {P:Prop} {xs':List AV} {r':Ex × Back}
  (ih:P->zab9 X.px.P X.px.gl fn.ntmps (zaaX code i) ins outs xs' σ' fun _ r=>r=r') {d:Nat} {os:Orc} {fz:Nat} {fc:List Nat} {xs:List AV} {σ:Hp} {r:Ex × Back}
  (h:runL X d f fn.ntmps (zaaX code i) (Lp1 ins gh outs P xs' σ' r') (Lp1 ins gh outs P xs' σ' r') os fz fc xs σ r):zab9 X.px.P X.px.gl fn.ntmps (zaaX code i) ins outs xs σ fun _ q=>q=r :=
 zad1 hX (L:=Lp1 ins gh outs P xs' σ' r') (L':=Lp1 ins gh outs P xs' σ' r') hf hb rfl hn (fun s hs j hp=>by obtain rfl:=List.mem_singleton.1 hs;exact ih hp) h
theorem zaGN {s t:ByteArray}{l:List UInt8}(h:t.data.toList=l):(s.toList==l)=decide (s=t):=by
 rw [ByteArray.toList_eq]
 by_cases hs:s=t
 · subst hs;rw [h];simp
 · rw [decide_eq_false hs,beq_eq_false_iff_ne]
   intro e
   refine hs ?_
   obtain ⟨⟨a⟩⟩:=s
   obtain ⟨⟨b⟩⟩:=t
   have h:b=l:=h
   have e:a=l:=e
   rw [h,e]
theorem zaba (s t:ByteArray):(s.toList==t.toList)=decide (s=t):=zaGN (ByteArray.toList_eq t).symm
theorem zaaC (s:ByteArray)(n:Nat):zaaa s n<256:=UInt8.toNat_lt _
theorem zafA {a:Nat}{b:Int}{n:Nat}(h:b=n):((a:Int)==b)=decide (a=n):=by grind
inductive OW:AObj->AObj->Prop
 | refl (o:AObj):OW o o
 | row (pu:Bool) (sz:Nat) {xs ys:List AV} (h:Wkl xs ys):OW (.row pu sz xs) (.row pu sz ys)
inductive HW (σ τ:Hp) (ws:List Nat):Prop
 | mk (h:∀ l,aget σ l=aget τ l∨(l∈ws/\∃ e e',aget σ l=some e/\aget τ l=some e'/\e.id=e'.id/\OW e.obj e'.obj))
theorem HW.get (h:HW σ τ ws)(l:Nat):aget σ l=aget τ l∨(l∈ws/\∃ e e',aget σ l=some e/\aget τ l=some e'/\e.id=e'.id/\OW e.obj e'.obj):=by cases h with|mk h=>exact h l
theorem HW.refl (σ:Hp)(ws:List Nat):HW σ σ ws:=⟨fun _ => .inl rfl⟩
theorem HW.nil (ws:List Nat):HW (hpL []) (hpL []) ws := .refl _ _
theorem HW.cons {l:Nat}{e:Ent}{r r':List (Nat × Ent)}(h:HW (hpL r) (hpL r') ws):HW (hpL ((l,e)::r)) (hpL ((l,e)::r')) ws:=⟨fun k=>by
 show aget (aset (hpL r) l e) k=aget (aset (hpL r') l e) k∨(k∈ws/\∃ e1 e2,aget (aset (hpL r) l e) k=some e1/\aget (aset (hpL r') l e) k=some e2/\e1.id=e2.id/\OW e1.obj e2.obj)
 rw [zaad,zaad]
 by_cases hk:k=l
 · rw [if_pos hk,if_pos hk];exact .inl rfl
 · rw [if_neg hk,if_neg hk];exact h.get k⟩
theorem HW.row {l:Nat}{i:Id}{pu:Bool}{sz:Nat}{xs ys:List AV}{r r':List (Nat × Ent)}(hl:l∈ws)(hw:Wkl xs ys)(h:HW (hpL r) (hpL r') ws) :
  HW (hpL ((l,⟨i,.row pu sz xs⟩)::r)) (hpL ((l,⟨i,.row pu sz ys⟩)::r')) ws:=⟨fun k=>by
 show aget (aset (hpL r) l ⟨i,.row pu sz xs⟩) k=aget (aset (hpL r') l ⟨i,.row pu sz ys⟩) k∨(k∈ws/\∃ e1 e2,aget (aset (hpL r) l ⟨i,.row pu sz xs⟩) k=some e1/\aget (aset (hpL r') l ⟨i,.row pu sz ys⟩) k=some e2/\e1.id=e2.id/\OW e1.obj e2.obj)
 rw [zaad,zaad]
 by_cases hk:k=l
 · rw [if_pos hk,if_pos hk,hk];exact .inr ⟨hl,_,_,rfl,rfl,rfl,.row pu sz hw⟩
 · rw [if_neg hk,if_neg hk];exact h.get k⟩
theorem Wkl.fsz {xs ys:List AV}(h:Wkl xs ys):∀ {cs:List Value} {sz:Nat},RR E .cs xs cs->(∀ x∈xs,x.fsz=sz)->∀ y∈ys,y.fsz=sz:=by
 induction h with
 | nil=>intro cs sz _ _ y hy;cases hy
 | cons h _ ih =>
  intro cs sz k hx y hy
  obtain ⟨v,cs',h1,h2,rfl⟩:=k.cs_cons_inv
  rcases List.mem_cons.1 hy with rfl|hy
  · rw [<- (h.vr h1).size,h1.size];exact hx _ (List.mem_cons_self ..)
  · exact ih h2 (fun x hx'=>hx x (List.mem_cons_of_mem _ hx')) y hy
theorem OW.obj {o o':AObj}{L:Loc}(h:OW o o')(k:ObjR E w o L):ObjR E w o' L:=by
 cases h with
 | refl=>exact k
 | row pu sz hw =>
  cases k with
  | row g hx hc hs hn hb hf ho=>exact .row g (hw.cs hx) hc (hw.fsz hx hs) (by rw [<-hw.length];exact hn) hb hf ho
  | ghost=>cases hw;exact .ghost pu sz
theorem HW.own (h:HW σ τ ws){b:Nat}(k:Own E τ b):Own E σ b:=by
 obtain ⟨l,e,L,h1,h2,h3⟩:=k
 rcases h.get l with g|⟨_,e1,e2,g1,g2,g3,_⟩
 · exact ⟨l,e,L,by rw [g];exact h1,h2,h3⟩
 · rw [g2] at h1;cases h1;exact ⟨l,e1,L,g1,by rw [g3];exact h2,h3⟩
theorem HW.holds (h:HW σ τ ws)(k:Holds E σ w):Holds E τ w:=by
 have back:∀ l e,aget τ l=some e->∃ e0,aget σ l=some e0/\e0.id=e.id/\OW e0.obj e.obj:=fun l e he=>by
  rcases h.get l with g|⟨_,e1,e2,g1,g2,g3,g4⟩
  · exact ⟨e,by rw [g];exact he,rfl,.refl _⟩
  · rw [g2] at he;cases he;exact ⟨e1,g1,g3,g4⟩
 refine ⟨k.imm,fun l e he => ?_,fun b hb=>k.apart b (h.own hb),fun l l' e e' L L' b h1 h2 h3 h4 h5 h6 => ?_⟩
 · obtain ⟨e0,g1,g2,g3⟩:=back l e he
   obtain ⟨L,q1,q2⟩:=k.own l e0 g1
   exact ⟨L,by rw [<-g2];exact q1,g3.obj q2⟩
 · obtain ⟨e0,g1,g2,_⟩:=back l e h1
   obtain ⟨e1,q1,q2,_⟩:=back l' e' h2
   exact k.inj l l' e0 e1 L L' b g1 q1 (by rw [g2];exact h3) (by rw [q2];exact h4) h5 h6
theorem HW.adv (h:HW σ τ ws){E':Env}{w':World}(k:Adv E τ w E' σ' w'):Adv E σ w E' σ' w' :=
 ⟨k.le,k.os,k.tape,k.output,k.size,fun b hb ho=>k.kept b hb fun q=>ho (h.own q),fun b hb=>(k.ownNew b hb).imp h.own id,fun b hb=>(k.mNew b hb).imp id (Or.imp h.own id)⟩
theorem HW.kept (h:HW σ τ ws)(k:Kept τ σ' ws):Kept σ σ' ws:=by
 refine ⟨fun l hl => ?_,fun l e he => ?_⟩
 · rcases h.get l with g|⟨g,_⟩
   · rw [k.same l hl,g]
   · exact absurd g hl
 · rcases h.get l with g|⟨_,e1,e2,g1,g2,_⟩
   · exact k.keep l e (by rw [<-g];exact he)
   · exact k.keep l e2 g2
def Spl.conW (l:List Spl):List AV->Hp->List (Alt (Ex × Back)):=fun xs σ=>l.map fun s=>⟨s.ι,fun i=>s.pre i/\Wks xs (s.args i)/\HW σ (s.heap i) (s.out i).2.ws,s.out⟩
theorem Spl.okW {P:Program}{gl:Nat->Option AV}{n:Nat}{x:Code}{L:Lp}{l:List Spl}(hL:L.con=Spl.conW l)(hn:L.ins.Nodup)(h:∀ s∈l,∀ i,s.pre i->zab9 P gl n x L.ins L.outs (s.args i) (s.heap i) fun _ r=>r=s.out i):LpOk P gl n x L:=by
 intro ys σ hlen a ha i hp
 rw [hL] at ha
 obtain ⟨s,hs,rfl⟩:=List.mem_map.1 ha
 have h1:=hp.1
 have h2:=hp.2.1
 have h3:HW σ (s.heap i) (s.out i).2.ws:=hp.2.2
 intro E w act hg hh hf hfr
 refine lwp_mono (h s hs i h1 E w act hg (h3.holds hh) hf (hfr.wks h2 hn hlen)) ?_
 rintro e a' w' ⟨os,r,E',rfl,k1,k2,k3,k4,k5⟩
 exact ⟨os,_,E',rfl,k1,h3.kept k2,k3,k4,h3.adv k5⟩
def Lp1W (ins:List Nat)(gh:List (Nat × Nat))(outs:Ex->List Nat)(P:Prop)(xs:List AV)(σ:Hp)(r:Ex × Back):Lp :=
 ⟨ins,gh,outs,Spl.conW [⟨Unit,fun _=>P,fun _=>xs,fun _=>σ,fun _=>r⟩]⟩
theorem zamc (hX:X.Sound) (hf:X.px.P.funcs[f]?=some fn) (hb:fn.body=some code) {ins:List Nat} {gh:List (Nat × Nat)} {outs:Ex->List Nat} (hn:ins.Nodup) {P:Prop} {xs':List AV} {r':Ex × Back}
  (ih:P->zab9 X.px.P X.px.gl fn.ntmps (zaaX code i) ins outs xs' σ' fun _ r=>r=r') {d:Nat} {os:Orc} {fz:Nat} {fc:List Nat} {xs:List AV} {σ:Hp} {r:Ex × Back}
  (h:runL X d f fn.ntmps (zaaX code i) (Lp1W ins gh outs P xs' σ' r') (Lp1W ins gh outs P xs' σ' r') os fz fc xs σ r):zab9 X.px.P X.px.gl fn.ntmps (zaaX code i) ins outs xs σ fun _ q=>q=r :=
 zaFx hX (zame (hX.lp f fn code hf hb) i) (Spl.okW (L:=Lp1W ins gh outs P xs' σ' r') (l:=[⟨Unit,fun _=>P,fun _=>xs',fun _=>σ',fun _=>r'⟩]) rfl hn fun s hs j hp=>by obtain rfl:=List.mem_singleton.1 hs;exact ih hp) h
end
end Go.AS
