/- Runs that ask the program alone; maps. -/
import Derived.Test.YtpofhijgccocpaaGreatDoorASl
namespace Go.AS
noncomputable section
def zaeg (P:Program){α:Type}:Sem α->Option α
 | .pure a=>some a
 | .mark _ k=>zaeg P k
 | .program k=>zaeg P (k P)
 | _=>none
variable {P:Program} {B:Tb} {t:TypeId} {E:Env} {w:World} {x y:AV} {u v k:Value} {τ:Hp} {look:Nat->Option Ent}
theorem zaak {α:Type}:∀ {s:Sem α} {a:α},zaeg P s=some a->∀ w,s.run P w = .ok a w:=by
 intro s
 induction s with
 | pure b=>intro a h w;simp only [zaeg,Option.some.injEq] at h;subst h;rfl
 | mark m k ih=>intro a h w;simp only [zaeg] at h;simp only [Sem.run];exact ih h w
 | program k ih=>intro a h w;simp only [zaeg] at h;simp only [Sem.run];exact ih P h w
 | _=>intro a h;simp [zaeg] at h
def cmpP (P:Program)(B:Tb)(op:BinOp)(t:TypeId)(xo yo:Operand)(x y:AV):Option AV :=
 match cmpE B op t xo yo x y with
 | some z=>some z
 | none=>match valN 3 x,valN 3 y with
  | some (.agg a),some (.agg b)=>match zaeg P (do eqGuard op t xo yo (.agg a) (.agg b);binOp op t (.agg a) (.agg b)) with
   | some z=>some (.lit z)
   | none=>none
  | _,_=>none
theorem zahT [TbOk B P] {op:BinOp}{xo yo:Operand}{z:AV}(hx:VR E x u)(hy:VR E y v)(h:cmpP P B op t xo yo x y=some z) :
  ∃ r,(do eqGuard op t xo yo u v;binOp op t u v:Sem Value).run P w = .ok r w/\VR E z r:=by
 unfold cmpP at h
 split at h
 · rename_i z' hz;cases h;exact zapf hx hy hz
 · split at h
   · rename_i a b ha hb
     have:=zacG hx ha;subst this
     have:=zacG hy hb;subst this
     split at h
     · rename_i r hr;cases h
       exact ⟨r,zaak hr w,.lit _⟩
     · cases h
   · cases h
def zacR (kd:TypeDesc)(k:Value):List Value->Nat->Option (Option Nat)
 | [],_=>some none
 | q::r,i=>match Instr.sameNow kd k q with
  | some true=>some (some i)
  | some false=>zacR kd k r (i+1)
  | none=>none
def askK (P:Program)(kt:TypeId)(k:Value):List Value->Nat->Option (Option Nat)
 | [],_=>some none
 | q::r,i=>match zaeg P (Op.equal kt k q) with
  | some true=>some (some i)
  | some false=>askK P kt k r (i+1)
  | none=>none
def zaAl (P:Program)(kt:TypeId)(kd:TypeDesc)(k:Value)(ks:List Value):Option (Option Nat) :=
 match zacR kd k ks 0 with
 | some r=>some r
 | none=>askK P kt k ks 0
def hit (es:List MapEntry)(i:Nat)(r:Option Nat):Option (Nat × Value) :=
 match r with
 | some j=>some (j,((es[j-i]?).map (·.val)).getD undef)
 | none=>none
theorem zamj {e:MapEntry}{es:List MapEntry}{i:Nat}{r:Option Nat}(h:∀ j,r=some j->i+1<=j):hit es (i+1) r=hit (e::es) i r:=by
 cases r with
 | none=>rfl
 | some j =>
  have:=h j rfl
  simp only [hit]
  obtain ⟨d,rfl⟩:∃ d,j=i+1+d:=⟨j-(i+1),by omega⟩
  rw [show i+1+d-(i+1)=d by omega,show i+1+d-i=d+1 by omega];simp
theorem zae8 {kd:TypeDesc}{k:Value}:∀ {es:List MapEntry} {i:Nat} {r:Option Nat},zacR kd k (es.map (·.key)) i=some r->Instr.findNow kd k es i=some (hit es i r)/\∀ j,r=some j->i<=j/\j-i<es.length
 | [],i,r,h=>by cases h;exact ⟨rfl,fun _ h=>by cases h⟩
 | e::es,i,r,h=>by
  rw [List.map_cons] at h
  unfold zacR at h
  unfold Instr.findNow
  split at h
  · rename_i hs;cases h;rw [hs];exact ⟨by simp [hit],fun j hj=>by cases hj;simp⟩
  · rename_i hs;rw [hs]
    obtain ⟨h1,h2⟩:=zae8 h
    refine ⟨by simp only;rw [h1,zamj fun j hj=>(h2 j hj).1],fun j hj => ?_⟩
    have:=h2 j hj
    simp only [List.length_cons];omega
  · cases h
theorem zae9 {kd:TypeDesc}{k:Value}:∀ {es:List MapEntry} {i:Nat},zacR kd k (es.map (·.key)) i=none->Instr.findNow kd k es i=none
 | [],i,h=>by cases h
 | e::es,i,h=>by
  rw [List.map_cons] at h
  unfold zacR at h
  unfold Instr.findNow
  split at h
  · cases h
  · rename_i hs;rw [hs];exact zae9 h
  · rename_i hs;rw [hs]
theorem zaqZ {P:Program}{kt:TypeId}{k:Value}:∀ {es:List MapEntry} {i:Nat} {r:Option Nat},askK P kt k (es.map (·.key)) i=some r->(∀ w,(Instr.findAsking kt k es i).run P w = .ok (hit es i r) w)/\∀ j,r=some j->i<=j/\j-i<es.length
 | [],i,r,h=>by cases h;exact ⟨fun w=>rfl,fun _ h=>by cases h⟩
 | e::es,i,r,h=>by
  rw [List.map_cons] at h
  unfold askK at h
  split at h
  · rename_i hs;cases h
    refine ⟨fun w => ?_,fun j hj=>by cases hj;simp⟩
    unfold Instr.findAsking
    simp only [Sem.run_bind,zaak hs w,Result.andThen_ok,if_true,Sem.run_pure]
    simp [hit]
  · rename_i hs
    obtain ⟨h1,h2⟩:=zaqZ h
    refine ⟨fun w => ?_,fun j hj => ?_⟩
    · unfold Instr.findAsking
      simp only [Sem.run_bind,zaak hs w,Result.andThen_ok,Bool.false_eq_true,if_false]
      rw [h1 w,zamj fun j hj=>(h2 j hj).1]
    · have:=h2 j hj
      simp only [List.length_cons];omega
  · cases h
theorem zagL [TbOk B P] {kt:TypeId}{K:TI}(hK:ti B kt=some K){es:List MapEntry}{ks:List Value}(hk:es.map (·.key)=ks){r:Option Nat}(h:zaAl P kt K.desc k ks=some r)(w:World) :
  (Instr.findKey kt k es).run P w = .ok (hit es 0 r) w/\∀ j,r=some j->j<es.length:=by
 subst hk
 unfold zaAl at h
 unfold Instr.findKey
 simp only [Sem.run_bind,zaa hK,Result.andThen_ok]
 split at h
 · rename_i q hq;cases h
   obtain ⟨h1,h2⟩:=zae8 hq
   rw [h1]
   exact ⟨rfl,fun j hj=>by have:=(h2 j hj).2;omega⟩
 · rename_i hq
   rw [zae9 hq]
   obtain ⟨h1,h2⟩:=zaqZ h
   exact ⟨h1 w,fun j hj=>by have:=(h2 j hj).2;omega⟩
def zajv (look:Nat->Option Ent):AV->Option (List Value × List AV)
 | .lit (.map none)=>some ([],[])
 | .mp l i=>match look l with
  | some e=>match decide (e.id=i) with
   | true=>match e.obj with
    | .map _ ks vs=>some (ks,vs)
    | _=>none
   | false=>none
  | none=>none
 | .mpv ks vs=>some (ks,vs)
 | _=>none
theorem zahB (hh:Holds E τ w)(hl:∀ l e,look l=some e->aget τ l=some e)(hx:VR E x v){ks:List Value}{vs:List AV}(h:zajv look x=some (ks,vs)) :
  (v = .map none/\ks=[]/\vs=[])∨∃ b es clock us,v = .map (some b)/\w.heap[b]?=some (.map es clock)/\es.toList.map (·.key)=ks/\es.toList.map (·.val)=us/\RR E .vs vs us:=by
 unfold zajv at h
 split at h
 · cases h;exact .inl ⟨hx.lit_inv,rfl,rfl⟩
 · rename_i l i
   split at h
   · rename_i e he
     split at h
     · rename_i hid
       split at h
       · rename_i pu' ks' vs' hobj;cases h
         cases hx with
         | mp _ hρ =>
           obtain ⟨L,h1,h2⟩:=hh.own l e (hl l e he)
           rw [of_decide_eq_true hid,hρ] at h1;cases h1
           rw [hobj] at h2
           cases h2 with
           | map h hk hu hv hb hd=>exact .inr ⟨_,_,_,_,rfl,h,hk,hu,hv.mono (E.sel_le _)⟩
       · cases h
     · cases h
   · cases h
 · cases h
   cases hx with
   | mpv h hk hu hv=>exact .inr ⟨_,_,_,_,rfl,hh.imm _ _ h,hk,hu,hv.mono E.pure_le⟩
 · cases h
def zafV (P:Program)(B:Tb)(T:TI)(look:Nat->Option Ent)(x key:AV)(commaOk:Bool):Option AV :=
 match T.desc with
 | .map kt et=>match key.val?,zajv look x,ti B kt,ti B et with
  | some k,some (ks,vs),some K,some U=>match zaeg P (Instr.checkKey ks.isEmpty 10000 kt k) with
   | some _=>match zaAl P kt K.desc k ks with
    | some (some j)=>match vs[j]? with
     | some y=>match commaOk with
      | true=>some (.tup [y,.lit (.bool true)])
      | false=>some y
     | none=>none
    | some none=>match U.zero with
     | some z=>match commaOk with
      | true=>some (.tup [.lit z,.lit (.bool false)])
      | false=>some (.lit z)
     | none=>none
    | none=>none
   | none=>none
  | _,_,_,_=>none
 | _=>none
theorem zaiA [TbOk B P] {T:TI} (hT:ti B t=some T) (hh:Holds E τ w) (hl:∀ l e,look l=some e->aget τ l=some e) {key:AV} 
  (hx:VR E x v) (hk:VR E key k) {c:Bool} (h:zafV P B T look x key c=some y):∃ u,(Instr.lookup t v k c).run P w = .ok u w/\VR E y u:=by
 unfold zafV at h
 split at h
 · rename_i kt et hd
   split at h
   · rename_i kv ks vs K U hkv hmv hK hU
     have:=zadq hk hkv;subst this
     split at h
     · rename_i hck
       have hund:=zaa hT w
       rw [hd] at hund
       have hes:∃ es:List MapEntry,es.map (·.key)=ks/\RR E .vs vs (es.map (·.val))/\(∀ c,(Instr.lookup t v k c).run P w=(do
           Instr.checkKey ks.isEmpty 10000 kt k
           let (v,ok) <-match <-Instr.findKey kt k es with
             | some (_,v)=>pure (v,true)
             | none=>pure (<-zeroValue et,false)
           pure (if c then .tuple #[v,.bool ok] else v):Sem Value).run P w):=by
         rcases zahB hh hl hx hmv with ⟨rfl,rfl,rfl⟩|⟨b,es,clock,us,rfl,h1,h2,h3,h4⟩
         · refine ⟨[],rfl,.vnil,fun c => ?_⟩
           simp only [Instr.lookup,Sem.run_bind,hund,Result.andThen_ok,Sem.run_pure]
           rfl
         · refine ⟨es.toList,h2,h3 ▸ h4,fun c => ?_⟩
           have hem:es.isEmpty=ks.isEmpty:=by rw [<-h2];cases es;rename_i l;cases l<;>rfl
           have hg:(getObj b).run P w = .ok (.map es clock) w:=by simp only [getObj,Sem.run,h1]
           simp only [Instr.lookup,Sem.run_bind,hund,Result.andThen_ok,hg,Sem.run_pure,hem]
           rfl
       obtain ⟨es,hks,hvs,hrun⟩:=hes
       split at h
       · rename_i j hj
         obtain ⟨f1,f2⟩:=zagL hK hks hj w
         split at h
         · rename_i z hz
           obtain ⟨u,hu,hzu⟩:=hvs.vs_get j z hz
           have hhit:hit es 0 (some j)=some (j,u):=by
             simp only [hit,Nat.sub_zero]
             rw [List.getElem?_map] at hu
             rw [hu];rfl
           rw [hhit] at f1
           split at h<;>cases h
           · refine ⟨.tuple #[u,.bool true],?_,.tup (.vcons hzu (.vcons (.lit _) .vnil))⟩
             rw [hrun]
             simp only [Sem.run_bind,zaak hck w,Result.andThen_ok,f1,Sem.run_pure,if_true]
           · refine ⟨u,?_,hzu⟩
             rw [hrun]
             simp only [Sem.run_bind,zaak hck w,Result.andThen_ok,f1,Sem.run_pure,Bool.false_eq_true,if_false]
         · cases h
       · rename_i hj
         obtain ⟨f1,f2⟩:=zagL hK hks hj w
         have hhit:hit es 0 none=none:=rfl
         rw [hhit] at f1
         split at h
         · rename_i z hz
           split at h<;>cases h
           · refine ⟨.tuple #[z,.bool false],?_,.tup (.vcons (.lit _) (.vcons (.lit _) .vnil))⟩
             rw [hrun]
             simp only [Sem.run_bind,zaak hck w,Result.andThen_ok,f1,zaa3 hU w hz,Sem.run_pure,if_true]
           · refine ⟨z,?_,.lit _⟩
             rw [hrun]
             simp only [Sem.run_bind,zaak hck w,Result.andThen_ok,f1,zaa3 hU w hz,Sem.run_pure,Bool.false_eq_true,if_false]
         · cases h
       · cases h
     · cases h
   · cases h
 · cases h
def zama (P:Program)(B:Tb)(T:TI)(look:Nat->Option Ent)(x key y:AV):Option Upd :=
 match T.desc with
 | .map kt _=>match x,key.val?,ti B kt with
  | .mp l i,some k,some K=>match look l with
   | some e=>match decide (e.id=i) with
    | true=>match e.obj with
     | .map pu ks vs=>match zaeg P (Instr.checkKey false 10000 kt k) with
      | some _=>match zaAl P kt K.desc k ks with
       | some (some j)=>match ks[j]? with
        | some q=>match Instr.sameBits 10000 q k with
         | true=>some [(l,⟨i,.map (pu&&zabF y) (ks.set j k) (vs.set j y)⟩)]
         | false=>none
        | none=>none
       | some none=>some [(l,⟨i,.map (pu&&zabF y) (ks++[k]) (vs++[y])⟩)]
       | none=>none
      | none=>none
     | _=>none
    | false=>none
   | none=>none
  | _,_,_=>none
 | _=>none
theorem RR.vs_set {E:Env}{y:AV}{u:Value}(hy:VR E y u):∀ (xs:List AV) (j:Nat) {vs:List Value},RR E .vs xs vs->RR E .vs (xs.set j y) (vs.set j u)
 | [],j,vs,h=>by obtain rfl:=h.vs_nil_inv;exact .vnil
 | x::xs,0,vs,h=>by obtain ⟨v,vs',_,h2,rfl⟩:=h.vs_cons_inv;exact .vcons hy h2
 | x::xs,j+1,vs,h=>by obtain ⟨v,vs',h1,h2,rfl⟩:=h.vs_cons_inv;exact .vcons h1 (RR.vs_set hy xs j h2)
theorem RR.vs_snoc {E:Env}{y:AV}{u:Value}(hy:VR E y u):∀ (xs:List AV) {vs:List Value},RR E .vs xs vs->RR E .vs (xs++[y]) (vs++[u])
 | [],vs,h=>by obtain rfl:=h.vs_nil_inv;exact .vcons hy .vnil
 | x::xs,vs,h=>by obtain ⟨v,vs',h1,h2,rfl⟩:=h.vs_cons_inv;exact .vcons h1 (RR.vs_snoc hy xs h2)
theorem zaiy [TbOk B P] {T:TI} (hT:ti B t=some T) (hh:Holds E τ w) (hl:∀ l e,look l=some e->aget τ l=some e) {key:AV} 
  (hx:VR E x v) (hk:VR E key k) (hy:VR E y u) {upd:Upd} (h:zama P B T look x key y=some upd) :
  ∃ w',(Instr.mapUpdate t v k u).run P w = .ok () w'/\Holds E (τ.app upd) w'/\Adv E τ w E (τ.app upd) w':=by
 unfold zama at h
 split at h
 · rename_i kt et hd
   split at h
   · rename_i l i kv K hkv hK
     have:=zadq hk hkv;subst this
     split at h
     · rename_i e he
       split at h
       · rename_i hid
         have hid:=of_decide_eq_true hid
         split at h
         · rename_i pu ks vs hobj
           split at h
           · rename_i hck
             have hund:=zaa hT w
             rw [hd] at hund
             cases hx with
             | mp _ hρ =>
               obtain ⟨L,h1,h2⟩:=hh.own l e (hl l e he)
               rw [hid,hρ] at h1;cases h1
               rw [hobj] at h2
               cases h2 with
               | map hw hks hus hvs hb hnd =>
                 rename_i b base sz cap es clock us
                 have hvs:=hvs.mono (E.sel_and_le pu (zabF y))
                 have hy:VR (E.sel (pu&&zabF y)) y u:=by
                   cases hnl:zabF y
                   · rw [Bool.and_false];exact hy
                   · cases pu
                     · exact hy
                     · exact hy.pure_of (by simp [zaaD,hnl])
                 have hg:(getObj b).run P w = .ok (.map es clock) w:=by simp only [getObj,Sem.run,hw]
                 have hset:∀ o:Array MapEntry × Nat,(setObj b (.map o.1 o.2)).run P w = .ok () { w with heap:=w.heap.setIfInBounds b (.map o.1 o.2) }:=fun o=>by simp only [setObj,Sem.run,hw]
                 have hlt:b<w.heap.size:=by rw [Array.getElem?_eq_some_iff] at hw;exact hw.1
                 have fin:∀ (es':Array MapEntry) (clock':Nat) (ks':List Value) (vs':List AV) (us':List Value),es'.toList.map (·.key)=ks'->es'.toList.map (·.val)=us'->RR (E.sel (pu&&zabF y)) .vs vs' us'->(∀ e∈es'.toList,e.born<clock') ->
                     (es'.toList.map (·.born)).Nodup->(Instr.mapUpdate t (.map (some b)) k u).run P w = .ok () { w with heap:=w.heap.setIfInBounds b (.map es' clock') }->upd=[(l,⟨i,.map (pu&&zabF y) ks' vs'⟩)] ->
                     ∃ w',(Instr.mapUpdate t (.map (some b)) k u).run P w = .ok () w'/\Holds E (τ.app upd) w'/\Adv E τ w E (τ.app upd) w':=by
                   intro es' clock' ks' vs' us' g1 g2 g3 g4 g5 g6 g7
                   have hw':(w.heap.setIfInBounds b (.map es' clock'))[b]?=some (.map es' clock'):=by simp [hlt]
                   obtain ⟨q1,q2⟩:=hh.write (w':={ w with heap:=w.heap.setIfInBounds b (.map es' clock') }) (hl l e he) (by rw [hid];exact hρ) rfl (.map (pu&&zabF y) ks' vs') (.map hw' g1 g2 g3 g4 g5) (by simp)
                     (fun c hc=>by simp only [Array.getElem?_setIfInBounds,Ne.symm hc,if_false]) rfl rfl rfl
                   rw [hid] at q1 q2
                   refine ⟨_,g6,?_,?_⟩<;>(subst g7;assumption)
                 split at h
                 · rename_i j hj
                   obtain ⟨f1,f2⟩:=zagL hK hks hj w
                   have hjlt:=f2 j rfl
                   split at h
                   · rename_i q hq
                     split at h
                     · rename_i hsb;cases h
                       have hq':(es[j]?).map (·.key)=some q:=by
                         rw [<-hks,List.getElem?_map] at hq;simpa using hq
                       have hjs:j<es.size:=by simpa using hjlt
                       refine fin (es.modify j fun e=>{ e with key:=k,val:=u }) clock _ _ (us.set j u) ?_ ?_ (RR.vs_set hy vs j hvs) ?_ ?_ ?_ rfl
                       · rw [<-hks];apply List.ext_getElem?;intro m
                         simp only [List.getElem?_map,Array.getElem?_toList,Array.getElem?_modify,List.getElem?_set,List.length_map,Array.length_toList]
                         by_cases hm:j=m
                         · subst hm;simp [hjs]
                         · simp [hm]
                       · rw [<-hus];apply List.ext_getElem?;intro m
                         simp only [List.getElem?_map,Array.getElem?_toList,Array.getElem?_modify,List.getElem?_set,List.length_map,Array.length_toList]
                         by_cases hm:j=m
                         · subst hm;simp [hjs]
                         · simp [hm]
                       · intro e' he'
                         obtain ⟨m,hm⟩:=List.getElem?_of_mem he'
                         simp only [Array.getElem?_toList,Array.getElem?_modify] at hm
                         split at hm
                         · rename_i hjm;subst hjm
                           cases hem:es[j]? with
                           | none=>rw [hem] at hm;cases hm
                           | some e0 =>
                             rw [hem] at hm;simp at hm;subst hm
                             exact hb e0 (List.mem_of_getElem? (by simpa using hem))
                         · exact hb e' (List.mem_of_getElem? (by simpa using hm))
                       · have:(es.modify j fun e=>{ e with key:=k,val:=u }).toList.map (·.born)=es.toList.map (·.born):=by
                           apply List.ext_getElem?;intro m
                           simp only [List.getElem?_map,Array.getElem?_toList,Array.getElem?_modify]
                           split
                           · simp [Option.map_map,Function.comp_def]
                           · rfl
                         rw [this];exact hnd
                       · have hkey:(Option.map (fun x=>x.key) es[j]?).getD k=q:=by rw [hq'];rfl
                         simp only [Instr.mapUpdate,Sem.run_bind,hund,Result.andThen_ok,hg,zaak hck w,f1,hit,hkey,Instr.keyThatStays,hsb,if_true,Sem.run_pure]
                         exact hset (_,_)
                     · cases h
                   · cases h
                 · rename_i hj;cases h
                   obtain ⟨f1,f2⟩:=zagL hK hks hj w
                   refine fin (es.push { key:=k,val:=u,born:=clock }) (clock+1) _ _ (us++[u]) (by simp [hks]) (by simp [hus]) (RR.vs_snoc hy vs hvs) ?_ ?_ ?_ rfl
                   · intro e' he'
                     simp only [Array.toList_push,List.mem_append,List.mem_singleton] at he'
                     rcases he' with he' | rfl
                     · have:=hb e' he';omega
                     · simp
                   · simp only [Array.toList_push,List.map_append,List.map_cons,List.map_nil]
                     rw [List.nodup_append]
                     refine ⟨hnd,by simp,fun a ha b hb' => ?_⟩
                     obtain ⟨e0,he0,rfl⟩:=List.mem_map.1 ha
                     simp at hb';subst hb'
                     have:=hb e0 he0
                     omega
                   · simp only [Instr.mapUpdate,Sem.run_bind,hund,Result.andThen_ok,hg,zaak hck w,f1,hit]
                     exact hset (_,_)
                 · cases h
           · cases h
         · cases h
       · cases h
     · cases h
   · cases h
 · cases h
theorem zahC (hh:Holds E τ w){p:Id}(hp:Fresh E p)(d:Nat):Ret P (Instr.makeMap t none) E τ w p (.mp d p) [(d,⟨p,.map true [] []⟩)]:=by
 have hle:E.le (E.name p (.at w.heap.size 0 0 0)):=Env.name_le (hp p (List.suffix_refl _))
 obtain ⟨q1,q2⟩:=hh.new hp (.map #[] 0) 0 0 0 d (.map true [] []) (.map (es := #[]) (clock:=0) (us:=[]) (by show (w.heap.push _)[w.heap.size]?=_;simp) rfl rfl .vnil (by simp) (by simp))
 exact ⟨.map (some w.heap.size),_,_,by simp [Instr.makeMap,newObj,Sem.run],.mp d (Env.name_self ..),q1,q2,Env.name_newIn⟩
end
end Go.AS
