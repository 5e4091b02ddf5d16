/- Operations on memory: what they do to abstract memory. -/
import Derived.Test.YtpofhijgccocpaaGreatDoorASd
namespace Go.AS
noncomputable section
def Ret (P:Program)(s:Sem Value)(E:Env)(τ:Hp)(w:World)(p:Id)(x:AV)(upd:Upd):Prop :=
 ∃ v w' E',s.run P w = .ok v w'/\VR E' x v/\Holds E' (τ.app upd) w'/\Adv E τ w E' (τ.app upd) w'/\zac6 E E' p
variable {P:Program} {E:Env} {τ:Hp} {w:World} {p:Id} {x:AV} {v:Value} {B:Tb} {T:TI} {t:TypeId}
theorem Ret.pure {s:Sem Value}(hh:Holds E τ w)(h:s.run P w = .ok v w)(hv:VR E x v):Ret P s E τ w p x [] :=
 ⟨v,w,E,h,hv,hh,.refl _ _ _,.refl _ _⟩
def AV.leaf:AV->Bool
 | .lit v=>v.oneCell'
 | .agg _=>false
 | .tup _=>false
 | _=>true
theorem zae5 (h:VR E x v)(hl:x.leaf=true):v.cells = #[v]:=by
 cases x with
 | lit u=>have:=h.lit_inv;subst this;exact zabw hl
 | agg _=>cases hl
 | tup _=>cases hl
 | _=>cases h<;>rfl
theorem zagq {xs:List AV}{cs:List Value}{sz:Nat}(hx:RR E .cs xs cs)(hs:∀ x∈xs,x.fsz=sz){k s n:Nat}{g:Bool}{y:AV}(hk:xs[k]?=some x)(hy:x.getAt s n g=some y) :
  PartR E cs (k*sz+s) n g y:=by
 obtain ⟨v,h1,rest,h2,h3⟩:=hx.cs_elem hs hk
 have:=zaf1 x h1 hy
 unfold PartR at this ⊢
 split at this
 · rename_i hg;rw [if_pos hg]
   obtain ⟨ds,r,h4,h5,h6⟩:=this
   by_cases hz:s<=v.cells.toList.length
   · refine ⟨ds,r++rest,?_,h5,h6⟩
     rw [<-List.drop_drop,h2,List.drop_append_of_le_length hz,h4];simp
   · rw [List.drop_eq_nil_of_le (by omega)] at h4
     have h7:ds=[]:=by
       have:=congrArg List.length h4;simp at this;exact List.length_eq_zero_iff.1 (by omega)
     subst h7
     exact ⟨[],cs.drop (k*sz+s),by simp,h5,h6⟩
 · rename_i hg;rw [if_neg hg]
   obtain ⟨h4,u,h5,h6⟩:=this
   refine ⟨h4,u,?_,h6⟩
   have hlt:s<v.cells.toList.length:=by rw [List.getElem?_eq_some_iff] at h5;exact h5.1
   rw [<-List.getElem?_drop,h2,List.getElem?_append_left hlt];exact h5
theorem zabV [TbOk B P] {tv:TypeId} (hT:ti B tv=some T) {b:Nat} {c:Array Value} {fz:Nat × Nat} (h:w.heap[b]?=some (.cells c t fz)) 
  {base off:Nat} {cs rest:List Value} (hc:c.toList.drop base=cs++rest) {y:AV} (hp:PartR E cs off T.size T.agg y):∃ v,(loadVar tv ⟨b,base+off,none⟩).run P w = .ok v w/\VR E y v:=by
 unfold PartR at hp
 split at hp
 · rename_i hg
   obtain ⟨ds,r,h1,h2,h3⟩:=hp
   refine ⟨_,zafp hT hg h (off:=base+off) (cs:=ds) (rest:=c.toList.drop (base+off+ds.length)) ?_ h2,h3⟩
   by_cases hle:off<=cs.length
   · have h4:c.toList.drop (base+off)=ds++(r++rest):=by
       rw [<-List.drop_drop,hc,List.drop_append_of_le_length hle,h1];simp
     rw [h4,<-List.drop_drop,h4,List.drop_left]
   · rw [List.drop_eq_nil_of_le (by omega)] at h1
     have h7:ds=[]:=by
       have:=congrArg List.length h1;simp at this;exact List.length_eq_zero_iff.1 (by omega)
     subst h7;simp
 · rename_i hg
   obtain ⟨h1,u,h2,h3⟩:=hp
   refine ⟨u,zafo hT (by simpa using hg) h ?_,h3⟩
   have hlt:off<cs.length:=by rw [List.getElem?_eq_some_iff] at h2;exact h2.1
   have:=zamR hc hlt
   rw [h2] at this;simpa using this
def zaow (T:TI)(look:Nat->Option Ent):AV->Option AV
 | .ptr l i k s =>
  match look l with
  | some e=>if e.id=i then match e.obj with
   | .row _ _ xs=>match xs[k]? with
    | some x=>x.getAt s T.size T.agg
    | none=>none
   | _=>none else none
  | none=>none
 | .ref y=>y.getAt 0 T.size T.agg
 | _=>none
theorem zahE [TbOk B P] (hT:ti B t=some T) (hh:Holds E τ w) {look:Nat->Option Ent} (hl:∀ l e,look l=some e->aget τ l=some e)
  {x y:AV} {v:Value} (hx:VR E x v) (h:zaow T look x=some y):∃ u,(Instr.loadAt t v).run P w = .ok u w/\VR E y u:=by
 unfold zaow at h
 split at h
 · rename_i l i k s
   obtain ⟨b,base,sz,cap,h1,rfl⟩:=hx.ptr_inv
   split at h
   · rename_i e he
     split at h
     · rename_i hid
       split at h
       · rename_i pu rz xs hobj
         split at h
         · rename_i x' hk
           obtain ⟨L,h2,h3⟩:=hh.own l e (hl l e he)
           rw [hid,h1] at h2;cases h2
           rw [hobj] at h3
           cases h3 with
           | row hw hr hc hs hn hb hf ho =>
             have hr:=hr.mono (E.sel_le _)
             have hp:=zagq hr hs hk h
             obtain ⟨u,h4,h5⟩:=zabV (P:=P) hT hw hc hp
             refine ⟨u,?_,h5⟩
             simp only [Instr.loadAt,Instr.sureAddr,Sem.run_bind,Sem.run_pure,Result.andThen_ok]
             rw [Nat.add_assoc];exact h4
         · cases h
       · cases h
     · cases h
   · cases h
 · rename_i y'
   obtain ⟨b,off,c,t',fz,cs,rest,rfl,h1,h2,h3⟩:=hx.ref_inv
   have hp:=zagq (xs:=[y']) (k:=0) (sz:=y'.fsz) h2 (by simp) rfl h
   rw [Nat.zero_mul,Nat.zero_add] at hp
   obtain ⟨u,h4,h5⟩:=zabV hT (hh.imm _ _ h1) h3 hp
   refine ⟨u,?_,h5⟩
   simpa only [Instr.loadAt,Instr.sureAddr,Sem.run_bind,Sem.run_pure,Result.andThen_ok,Nat.add_zero] using h4
 · cases h
def zali (T:TI)(look:Nat->Option Ent)(y:AV):AV->Option Upd
 | .ptr l i k s =>
  match look l with
  | some e=>if e.id=i/\y.storable=true/\y.fsz=T.size/\(T.agg=true∨y.leaf=true) then match e.obj with
   | .row pu sz xs=>match xs[k]? with
    | some x=>match x.setAt s T.size T.agg y with
     | some x'=>some [(l,⟨i,.row (pu&&zabF y) sz (xs.set k x')⟩)]
     | none=>none
    | none=>none
   | _=>none else none
  | none=>none
 | _=>none
theorem zafK [TbOk B P] (hT:ti B t=some T) (hh:Holds E τ w) {look:Nat->Option Ent} (hl:∀ l e,look l=some e->aget τ l=some e)
  {x y:AV} {v u:Value} {upd:Upd} (hx:VR E x v) (hy:VR E y u) (h:zali T look y x=some upd) :
  ∃ w',(Instr.storeAt t v u).run P w = .ok () w'/\Holds E (τ.app upd) w'/\Adv E τ w E (τ.app upd) w':=by
 unfold zali at h
 split at h
 · rename_i l i k s
   obtain ⟨b,base,sz,cap,h1,rfl⟩:=hx.ptr_inv
   split at h
   · rename_i e he
     split at h
     · rename_i hcond;obtain ⟨hid,hst,hsz,hag⟩:=hcond
       split at h
       · rename_i pu rz xs hobj
         split at h
         · rename_i x' hk
           split at h
           · rename_i x'' hset
             cases h
             have hget:=hl l e he
             obtain ⟨L,h2,h3⟩:=hh.own l e hget
             rw [hid,h1] at h2;cases h2
             rw [hobj] at h3
             cases h3 with
             | row hw hr hc hs hn hb hf ho =>
               rename_i c t' fz cs rest
               have hr:=hr.mono (E.sel_and_le pu (zabF y))
               have hyE:=hy
               have hy:VR (E.sel (pu&&zabF y)) y u:=by
                 cases hnl:zabF y
                 · rw [Bool.and_false];exact hyE
                 · cases pu
                   · exact hyE
                   · exact hyE.pure_of (by simp [zaaD,hnl])
               have husz:u.cells.size=T.size:=by rw [hy.size,hsz]
               obtain ⟨vx,h4,rx,h5,h6⟩:=hr.cs_elem hs hk
               have hgo:T.agg=false->u.oneCell'=true:=fun hg=>by
                 have hlf : y.leaf = true := by rcases hag with hag | hag; · rw [hg] at hag; cases hag
                                                · exact hag
                 have:=zae5 hy hlf
                 have h9:=zaaG y hy hst u (by rw [this];simp)
                 exact h9
               obtain ⟨h7,v'',h8,h9⟩:=zadT x' h4 hset hy husz hgo
               have hklt:k<xs.length:=by rw [List.getElem?_eq_some_iff] at hk;exact hk.1
               have hv''sz:v''.cells.size=sz:=by
                 have:v''.cells.toList.length=vx.cells.toList.length:=by rw [h9,zacc h7]
                 simpa [h6] using this
               obtain ⟨h10,h11⟩:=RR.cs_setElem h8 hv''sz xs k hr hs hklt
               have hksz:k*sz+sz<=cap*sz:=by rw [<-Nat.succ_mul];exact Nat.mul_le_mul_right _ (by omega)
               have hul:u.cells.toList.length=T.size:=by simpa using husz
               have h7':s+T.size<=sz:=by simp at h7;omega
               obtain ⟨w',g1,g2,g3,g4,g5,g6,g7⟩:=zaeO (P:=P) hT (w:=w) (b:=b) (off:=base+k*sz+s) hw husz (by omega) (zaaG y hy hst)
                 (fun j hj1 hj2=>hf j (by omega) (by omega))
               have hcl:c.toList.length=c.size:=by simp
               have hcsl:cs.length+rest.length=c.size-base:=by
                 have:=congrArg List.length hc;simp at this;omega
               have hcs':spl cs (k*sz) v''.cells.toList=spl cs (k*sz+s) u.cells.toList:=by
                 have hvx:vx.cells.toList=(cs.drop (k*sz)).take sz:=by
                   rw [h5,List.take_left' (by simpa using h6)]
                 rw [h9,hvx,zavq h11 (by omega)]
               have hob:ObjR E w' (.row (pu&&zabF y) sz (xs.set k x'')) (.at b base sz cap):=by
                 refine .row g2 h10 (rest:=rest) ?_ ?_ (by simpa using hn) ?_ hf ?_
                 · rw [hcs']
                   have hpre:c.toList=c.toList.take base++(cs++rest):=by rw [<-hc,List.take_append_drop]
                   have hbl:(c.toList.take base).length=base:=by simp;omega
                   show (spl c.toList (base+k*sz+s) u.cells.toList).drop base=_
                   rw [hpre,zacX (by omega),hbl,List.drop_append,List.drop_eq_nil_of_le (by omega),hbl]
                   simp only [Nat.sub_self,List.drop_zero,List.nil_append]
                   rw [show base+k*sz+s-base=k*sz+s by omega,zagl (by omega)]
                 · intro z hz
                   rcases List.mem_or_eq_of_mem_set hz with hz|rfl
                   · exact hs z hz
                   · rw [<-h8.size];exact hv''sz
                 · rw [List.size_toArray,zacc (by simp;omega),hcl];exact hb
                 · rw [hcs'];intro z hz
                   rcases List.mem_append.1 hz with hz|hz
                   · exact ho z (List.mem_of_mem_take hz)
                   · rcases List.mem_append.1 hz with hz|hz
                     · exact zaaG y hy hst z hz
                     · exact ho z (List.mem_of_mem_drop hz)
               obtain ⟨q1,q2⟩:=hh.write hget (by rw [hid];exact h1) rfl (.row (pu&&zabF y) sz (xs.set k x'')) hob g3 g4 g5 g6 g7
               rw [hid] at q1 q2
               refine ⟨w',?_,q1,q2⟩
               simpa only [Instr.storeAt,Instr.sureAddr,Sem.run_bind,Sem.run_pure,Result.andThen_ok] using g1
           · cases h
         · cases h
       · cases h
     · cases h
   · cases h
 · cases h
def zaeS:List Value->AV
 | [v] => .lit v
 | cs => .lit (.agg cs.toArray)
def scalar (B:Tb)(t:TypeId):Bool :=
 match ti B t with
 | some T=>match T.desc with | .bool | .int _ | .float _ | .complex _ | .string=>true|_=>false
 | none=>true
def chunks (f:List Value->AV)(n:Nat):Nat->List Value->List AV
 | 0,cs=>if cs=[] then [] else [zaeS cs]
 | k+1,cs=>f (cs.take n)::chunks f n k (cs.drop n)
def zahb (B:Tb)(f:TypeId->List Value->AV):List Field->List Value->List AV
 | [],cs=>if cs=[] then [] else [zaeS cs]
 | fd::r,cs=>f fd.type (cs.take (cellsOf B fd.type))::zahb B f r (cs.drop (cellsOf B fd.type))
def unfl (B:Tb):Nat->TypeId->List Value->AV
 | 0,_,cs=>zaeS cs
 | f+1,t,cs =>
  match ti B t with
  | some T=>match T.desc with
   | .struct fs => .agg (zahb B (unfl B f) fs.toList cs)
   | .array n e=>if scalar B e then .lit (.agg cs.toArray) else .agg (chunks (unfl B f e) (cellsOf B e) n cs)
   | _=>zaeS cs
  | none=>zaeS cs
theorem zacJ {cs:List Value}(h:∀ u∈cs,u.oneCell'=true):RR E .cs [zaeS cs] cs:=by
 unfold zaeS
 split
 · rename_i v
   have:=RR.cs_one (RR.lit (E:=E) v)
   rwa [zabw (h v (by simp))] at this
 · have:=RR.cs_one (RR.lit (E:=E) (.agg cs.toArray))
   simpa [Value.cells] using this
theorem RR.cs_cat {xs:List AV}{a b:List Value}(h:RR E .cs [x] a)(k:RR E .cs xs b):RR E .cs (x::xs) (a++b):=by
 have:=RR.cs_append h k;simpa using this
theorem zagQ {E:Env}{f:List Value->AV}{n:Nat}(hf:∀ cs,(∀ u∈cs,u.oneCell'=true)->RR E .cs [f cs] cs):∀ (k:Nat) (cs:List Value),(∀ u∈cs,u.oneCell'=true)->RR E .cs (chunks f n k cs) cs
 | 0,cs,h=>by
  unfold chunks;split
  · rename_i e;subst e;exact .cnil
  · exact zacJ h
 | k+1,cs,h=>by
  unfold chunks
  have:=RR.cs_cat (hf (cs.take n) fun u hu=>h u (List.mem_of_mem_take hu)) (zagQ (n:=n) hf k (cs.drop n) fun u hu=>h u (List.mem_of_mem_drop hu))
  rwa [List.take_append_drop] at this
theorem zaeJ {E:Env}{B:Tb}{f:TypeId->List Value->AV}(hf:∀ t cs,(∀ u∈cs,u.oneCell'=true)->RR E .cs [f t cs] cs) :
  ∀ (fs:List Field) (cs:List Value),(∀ u∈cs,u.oneCell'=true)->RR E .cs (zahb B f fs cs) cs
 | [],cs,h=>by
  unfold zahb;split
  · rename_i e;subst e;exact .cnil
  · exact zacJ h
 | fd::fs,cs,h=>by
  unfold zahb
  have:=RR.cs_cat (hf fd.type (cs.take (cellsOf B fd.type)) fun u hu=>h u (List.mem_of_mem_take hu)) (zaeJ (B:=B) hf fs (cs.drop (cellsOf B fd.type)) fun u hu=>h u (List.mem_of_mem_drop hu))
  rwa [List.take_append_drop] at this
theorem zag8 {E:Env}{B:Tb}:∀ (f:Nat) (t:TypeId) (cs:List Value),(∀ u∈cs,u.oneCell'=true)->RR E .cs [unfl B f t cs] cs
 | 0,_,cs,h=>by unfold unfl;exact zacJ h
 | f+1,t,cs,h=>by
  unfold unfl
  split
  · split
    · rename_i fs _
      have:=RR.cs_one (RR.agg (zaeJ (B:=B) (f:=unfl B f) (fun t cs h=>zag8 (E:=E) f t cs h) fs.toList cs h))
      simpa [Value.cells] using this
    · rename_i n e _
      split
      · have:=RR.cs_one (RR.lit (E:=E) (.agg cs.toArray))
        simpa [Value.cells] using this
      · have:=RR.cs_one (RR.agg (zagQ (n:=cellsOf B e) (f:=unfl B f e) (fun cs h=>zag8 (E:=E) f e cs h) n cs h))
        simpa [Value.cells] using this
    · exact zacJ h
  · exact zacJ h
def zaBQ (B:Tb)(T:TI)(t:TypeId):Option AV :=
 match T.zero with
 | some z=>if z.cells.toList.all (·.oneCell') then some (unfl B 8 t z.cells.toList) else none
 | none=>none
theorem zakM (h:zaBQ B T t=some x):∃ z,T.zero=some z/\(∀ u∈z.cells.toList,u.oneCell'=true)/\∀ E,RR E .cs [x] z.cells.toList:=by
 unfold zaBQ at h
 split at h
 · rename_i z hz
   split at h
   · rename_i hall;cases h
     exact ⟨z,hz,fun u hu=>List.all_eq_true.1 hall u hu,fun E=>zag8 8 t _ fun u hu=>List.all_eq_true.1 hall u hu⟩
   · cases h
 · cases h
theorem zaeA (lo hi:Nat):free (0,0) lo hi:=fun j _ _=>by simp
theorem zadb (hh:Holds E τ w)(hp:Fresh E p)(hx:RR E .cs [x] v.cells.toList)(hv:∀ u∈v.cells.toList,u.oneCell'=true)(d:Nat) :
  ∃ a w' E',(newVar t v).run P w = .ok a w'/\VR E' (.ptr d p 0 0) (.pointer (some a))/\Holds E' (τ.app [(d,⟨p,.row (zabF x) x.fsz [x]⟩)]) w'/\Adv E τ w E' (τ.app [(d,⟨p,.row (zabF x) x.fsz [x]⟩)]) w'/\zac6 E E' p:=by
 have hle:E.le (E.name p (.at w.heap.size 0 x.fsz 1)):=Env.name_le (hp p (List.suffix_refl _))
 have hlen:=hx.cs_length
 simp [AV.fszs] at hlen
 obtain ⟨h1,h2⟩:=hh.new hp (.cells v.cells t) 0 x.fsz 1 d (.row (zabF x) x.fsz [x]) (.row (rest:=[]) (c:=v.cells) (t:=t) (fz:=(0,0)) (by show (w.heap.push _)[w.heap.size]?=_;simp) ((by have:=hx.sel_of;simpa [zaaD] using this:RR (E.sel (zabF x)) .cs [x] v.cells.toList).mono (hle.sel _)) (by simp) (by simp) (by simp)
  (by omega) (zaeA _ _) hv)
 refine ⟨⟨w.heap.size,0,none⟩,w.alloc (.cells v.cells t),_,rfl,?_,h1,h2,Env.name_newIn⟩
 have:=RR.ptr (E:=E.name p (.at w.heap.size 0 x.fsz 1)) d 0 0 (Env.name_self ..)
 simpa using this
theorem zait (hh:Holds E τ w)(hn:zabF x=true)(hx:RR E .cs [x] v.cells.toList) :
  ∃ a w' E',(newVar t v).run P w = .ok a w'/\VR E' (.ref x) (.pointer (some a))/\Holds E' τ w'/\Adv E τ w E' τ w'/\zac6 E E' p:=by
 obtain ⟨h1,h2⟩:=hh.newMem (.cells v.cells t)
 refine ⟨⟨w.heap.size,0,none⟩,w.alloc (.cells v.cells t),_,rfl,?_,h1,h2,Env.mem_newIn⟩
 exact .ref (c:=v.cells) (t:=t) (fz:=(0,0)) (rest:=[]) (by simp [Env.mem]) ((hx.pure_of (by simp [zaaD,hn])).mono h2.le.pure) (by simp)
end
end Go.AS
