/- Parts of an abstract value set anew. -/
import Derived.Test.YtpofhijgccocpaaGreatDoorASc
namespace Go.AS
noncomputable section
def Value.storable (v:Value):Bool:=v.cells.toList.all (·.oneCell')
mutual
def AV.storable:AV->Bool
 | .lit v=>Value.storable v
 | .agg xs=>AV.storables xs
 | .tup _=>false
 | _=>true
def AV.storables:List AV->Bool
 | []=>true
 | x::xs=>x.storable&&AV.storables xs
end
mutual
theorem zaaG {E:Env}:∀ (x:AV) {v:Value},VR E x v->x.storable=true->∀ u∈v.cells.toList,u.oneCell'=true
 | .lit u,v,hx,h=>by
  have:=hx.lit_inv;subst this
  rw [AV.storable,Value.storable,List.all_eq_true] at h;exact h
 | .agg xs,v,hx,h=>by
  obtain ⟨cs,rfl,hcs⟩:=hx.agg_inv
  rw [AV.storable] at h
  simpa [Value.cells] using zac7 xs hcs h
 | .tup _,v,hx,h=>by rw [AV.storable] at h;cases h
 | .ptr ..,v,hx,_=>by cases hx;simp [Value.cells,Value.oneCell']
 | .slc ..,v,hx,_=>by cases hx<;>simp [Value.cells,Value.oneCell']
 | .ref _,v,hx,_=>by cases hx;simp [Value.cells,Value.oneCell']
 | .lst ..,v,hx,_=>by cases hx<;>simp [Value.cells,Value.oneCell']
 | .mp ..,v,hx,_=>by cases hx;simp [Value.cells,Value.oneCell']
 | .mpv ..,v,hx,_=>by cases hx;simp [Value.cells,Value.oneCell']
 | .fn ..,v,hx,_=>by cases hx;simp [Value.cells,Value.oneCell']
 | .iface ..,v,hx,_=>by cases hx;simp [Value.cells,Value.oneCell']
theorem zac7 {E:Env}:∀ (xs:List AV) {cs:List Value},RR E .cs xs cs->AV.storables xs=true->∀ u∈cs,u.oneCell'=true
 | [],cs,hx,_=>by obtain rfl:=hx.cs_nil_inv;simp
 | x::xs,cs,hx,h=>by
  obtain ⟨v,cs',h1,h2,rfl⟩:=hx.cs_cons_inv
  rw [AV.storables,Bool.and_eq_true] at h
  intro u hu
  rcases List.mem_append.1 hu with hu|hu
  · exact zaaG x h1 h.1 u hu
  · exact zac7 xs h2 h.2 u hu
end
def zasH (v:Value)(off n:Nat)(g:Bool)(y:AV):Option AV :=
 match v with
 | .agg cs =>
  if g then
   if off=0/\n=cs.size then some y else
   match y with
   | .lit (.agg ds)=>if off+n<=cs.size/\ds.size=n then some (.lit (.agg (spl cs.toList off ds.toList).toArray)) else none
   | _=>none
  else if n=1/\off<cs.size then
   match y with
   | .lit u=>if u.oneCell' then some (.lit (.agg (cs.setIfInBounds off u))) else none
   | y=>if cs.toList.all (·.oneCell') then some (.agg ((cs.toList.map .lit).set off y)) else none
  else none
 | _=>if off=0/\n=1/\g=false then some y else none
mutual
def AV.setAt:AV->Nat->Nat->Bool->AV->Option AV
 | .lit v,off,n,g,y=>zasH v off n g y
 | .agg xs,off,n,g,y=>if off=0/\g=true/\n=AV.fszs xs then some y else (AV.setAts xs off n g y).map .agg
 | _,off,n,g,y=>if off=0/\n=1/\g=false then some y else none
def AV.setAts:List AV->Nat->Nat->Bool->AV->Option (List AV)
 | [],_,_,_,_=>none
 | x::xs,off,n,g,y=>if off<x.fsz then (x.setAt off n g y).map (· :: xs) else (AV.setAts xs (off-x.fsz) n g y).map (x :: ·)
end
variable {v u:Value} {vs:List Value} {off n:Nat} {E:Env} {y:AV}
theorem zabw (h:v.oneCell'=true):v.cells = #[v]:=by cases v<;>simp_all [Value.cells,Value.oneCell']
theorem RR.cs_lits {E:Env}:∀ (cs:List Value),(∀ u∈cs,u.oneCell'=true)->RR E .cs (cs.map .lit) cs
 | [],_ => .cnil
 | u::cs,h=>by
  have:=RR.ccons (RR.lit (E:=E) u) (RR.cs_lits cs fun v hv=>h v (List.mem_cons_of_mem _ hv))
  rw [zabw (h u (List.mem_cons_self ..))] at this
  simpa using this
theorem RR.cs_set {E:Env}{y:AV}{u:Value}(hy:VR E y u)(hu:u.oneCell'=true):∀ (xs:List AV) (off:Nat) {cs:List Value},RR E .cs xs cs->(∀ x∈xs,x.fsz=1)->off<xs.length ->
  RR E .cs (xs.set off y) (cs.set off u)
 | [],_,_,_,_,h=>by simp at h
 | x::xs,0,cs,hx,h1,_=>by
  obtain ⟨v,cs',h2,h3,rfl⟩:=hx.cs_cons_inv
  have hs:=h2.size
  rw [h1 x (List.mem_cons_self ..)] at hs
  have:=RR.ccons hy h3
  rw [zabw hu] at this
  have hv:∃ z,v.cells.toList=[z]:=List.length_eq_one_iff.1 (by simpa using hs)
  obtain ⟨z,hz⟩:=hv
  rw [hz];simpa using this
 | x::xs,off+1,cs,hx,h1,hlt=>by
  obtain ⟨v,cs',h2,h3,rfl⟩:=hx.cs_cons_inv
  have hs:=h2.size
  rw [h1 x (List.mem_cons_self ..)] at hs
  obtain ⟨z,hz⟩:∃ z,v.cells.toList=[z]:=List.length_eq_one_iff.1 (by simpa using hs)
  have:=RR.cs_set hy hu xs off h3 (fun y hy=>h1 y (List.mem_cons_of_mem _ hy)) (by simpa using hlt)
  have:=RR.ccons h2 this
  rw [hz] at this ⊢
  simpa using this
theorem zads {c:List Value}(h:vs.length=c.length):spl c 0 vs=vs:=by simp [spl,h]
theorem zapL {c:List Value}(h:off<c.length):spl c off [u]=c.set off u:=by
 apply List.ext_getElem?;intro j
 rw [zac8 (by simp;omega)]
 by_cases hj:j=off
 · subst hj;simp [h]
 · rw [if_neg (by simp;omega),List.getElem?_set_ne (by omega)]
theorem zagl {a b:List Value}(h:off+vs.length<=a.length):spl (a++b) off vs=spl a off vs++b:=by grind [spl]
theorem zacX {a b:List Value}(h:a.length<=off):spl (a++b) off vs=a++spl b (off-a.length) vs:=by
 simp only [spl]
 rw [List.take_append,List.take_of_length_le h,List.drop_append,List.drop_eq_nil_of_le (by omega)]
 simp;congr 2;omega
def SetR (E:Env)(y':AV)(cs:List Value)(off:Nat)(vs:List Value):Prop :=
 off+vs.length<=cs.length/\∃ v',VR E y' v'/\v'.cells.toList=spl cs off vs
theorem zaiC {g:Bool}{y':AV}(h:zasH v off n g y=some y')(hy:VR E y u)(hn:u.cells.size=n)(hg:g=false->u.oneCell'=true) :
  SetR E y' v.cells.toList off u.cells.toList:=by
 unfold zasH at h
 split at h
 · rename_i cs
   split at h
   · rename_i hgt
     split at h
     · rename_i he;cases h;obtain ⟨rfl,he⟩:=he
       have hl:u.cells.toList.length=(Value.agg cs).cells.toList.length:=by
         show u.cells.toList.length=cs.toList.length
         simp only [Array.length_toList];omega
       exact ⟨by omega,u,hy,(zads hl).symm⟩
     · split at h
       · rename_i ds
         split at h
         · rename_i he;cases h;obtain ⟨h1,h2⟩:=he
           have:=hy.lit_inv;subst this
           exact ⟨by simp [Value.cells];omega,_,.lit _,by simp [Value.cells]⟩
         · cases h
       · cases h
   · rename_i hgf
     have hgf':g=false:=by simpa using hgf
     have hone:=hg hgf'
     split at h
     · rename_i he;obtain ⟨rfl,hlt⟩:=he
       split at h
       · split at h
         · rename_i u' hu;cases h
           have:=hy.lit_inv;subst this
           refine ⟨by rw [zabw hone];simp [Value.cells];omega,_,.lit _,?_⟩
           rw [zabw hone]
           simp only [Value.cells,Array.toList_setIfInBounds]
           rw [zapL (by simpa using hlt)]
         · cases h
       · rename_i y'' hne
         split at h
         · rename_i hall;cases h
           rw [List.all_eq_true] at hall
           refine ⟨by rw [zabw hone];simp [Value.cells];omega,_,.agg (RR.cs_set hy hone (cs.toList.map .lit) off (RR.cs_lits _ hall) ?_ (by simpa using hlt)),?_⟩
           · intro x hx
             obtain ⟨z,hz,rfl⟩:=List.mem_map.1 hx
             simp [AV.fsz,zabw (hall z hz)]
           · rw [zabw hone]
             simp only [Value.cells]
             rw [zapL (by simpa using hlt)]
         · cases h
     · cases h
 · rename_i v' hne
   split at h
   · rename_i he;cases h;obtain ⟨rfl,rfl,rfl⟩:=he
     have hc:v.cells = #[v]:=by unfold Value.cells;split<;>simp_all
     refine ⟨by rw [hc];simp [hn],u,hy,?_⟩
     rw [zads];rw [hc];simp [hn]
   · cases h
theorem zaaN {y':AV} {g:Bool} (hc:v.cells = #[v]) (h:(if off=0/\n=1/\g=false then some y else none)=some y') (hy:VR E y u)
  (hn:u.cells.size=n):SetR E y' v.cells.toList off u.cells.toList:=by
 split at h
 · rename_i he;cases h;obtain ⟨rfl,rfl,rfl⟩:=he
   refine ⟨by rw [hc];simp [hn],u,hy,?_⟩
   rw [zads];rw [hc];simp [hn]
 · cases h
mutual
theorem zadT {E:Env}:∀ (x:AV) {v:Value} {off n:Nat} {g:Bool} {y y':AV} {u:Value},VR E x v->x.setAt off n g y=some y'->VR E y u->u.cells.size=n->(g=false->u.oneCell'=true) ->
  SetR E y' v.cells.toList off u.cells.toList
 | .lit w,v,off,n,g,y,y',u,hx,h,hy,hn,hg=>by
  have:=hx.lit_inv;subst this
  rw [AV.setAt] at h;exact zaiC h hy hn hg
 | .agg xs,v,off,n,g,y,y',u,hx,h,hy,hn,hg=>by
  obtain ⟨cs,rfl,hcs⟩:=hx.agg_inv
  rw [AV.setAt] at h
  split at h
  · rename_i he;cases h;obtain ⟨rfl,rfl,he⟩:=he
    have:=hcs.cs_length
    have hl:u.cells.toList.length=(Value.agg cs.toArray).cells.toList.length:=by
      show u.cells.toList.length=cs.length
      simp only [Array.length_toList];omega
    exact ⟨by omega,u,hy,(zads hl).symm⟩
  · cases hs:AV.setAts xs off n g y with
    | none=>rw [hs] at h;cases h
    | some ys =>
      rw [hs] at h;cases h
      obtain ⟨h1,cs',h2,h3⟩:=zaeM xs hcs hs hy hn hg
      exact ⟨by simpa [Value.cells] using h1,_,.agg h2,by simpa [Value.cells] using h3⟩
 | .ptr .., v, off, n, g, y, y', u, hx, h, hy, hn, hg => by rw [AV.setAt] at h; exact zaaN (by cases hx; rfl) h hy hn
                                                            all_goals simp
 | .slc .., v, off, n, g, y, y', u, hx, h, hy, hn, hg => by rw [AV.setAt] at h; exact zaaN (by cases hx <;> rfl) h hy hn
                                                            all_goals simp
 | .ref _, v, off, n, g, y, y', u, hx, h, hy, hn, hg => by rw [AV.setAt] at h; exact zaaN (by cases hx; rfl) h hy hn
                                                           all_goals simp
 | .lst .., v, off, n, g, y, y', u, hx, h, hy, hn, hg => by rw [AV.setAt] at h; exact zaaN (by cases hx <;> rfl) h hy hn
                                                            all_goals simp
 | .mp .., v, off, n, g, y, y', u, hx, h, hy, hn, hg => by rw [AV.setAt] at h; exact zaaN (by cases hx; rfl) h hy hn
                                                           all_goals simp
 | .mpv .., v, off, n, g, y, y', u, hx, h, hy, hn, hg => by rw [AV.setAt] at h; exact zaaN (by cases hx; rfl) h hy hn
                                                            all_goals simp
 | .fn .., v, off, n, g, y, y', u, hx, h, hy, hn, hg => by rw [AV.setAt] at h; exact zaaN (by cases hx; rfl) h hy hn
                                                           all_goals simp
 | .iface .., v, off, n, g, y, y', u, hx, h, hy, hn, hg => by rw [AV.setAt] at h; exact zaaN (by cases hx; rfl) h hy hn
                                                              all_goals simp
 | .tup .., v, off, n, g, y, y', u, hx, h, hy, hn, hg => by rw [AV.setAt] at h; exact zaaN (by cases hx; rfl) h hy hn
                                                            all_goals simp
theorem zaeM {E:Env}:∀ (xs:List AV) {cs:List Value} {off n:Nat} {g:Bool} {y:AV} {ys:List AV} {u:Value},RR E .cs xs cs->AV.setAts xs off n g y=some ys->VR E y u->u.cells.size=n ->
  (g=false->u.oneCell'=true)->off+u.cells.toList.length<=cs.length/\∃ cs',RR E .cs ys cs'/\cs'=spl cs off u.cells.toList
 | [],cs,off,n,g,y,ys,u,_,h,_,_,_=>by rw [AV.setAts] at h;cases h
 | x::xs,cs,off,n,g,y,ys,u,hx,h,hy,hn,hg=>by
  obtain ⟨v,cs',h1,h2,rfl⟩:=hx.cs_cons_inv
  rw [AV.setAts] at h
  have hsz:v.cells.toList.length=x.fsz:=by simpa using h1.size
  split at h
  · rename_i hlt
    cases hs:x.setAt off n g y with
    | none=>rw [hs] at h;cases h
    | some x' =>
      rw [hs] at h;cases h
      obtain ⟨h3,v',h4,h5⟩:=zadT x h1 hs hy hn hg
      refine ⟨by simp at h3 ⊢;omega,_,.ccons h4 h2,?_⟩
      rw [h5,zagl h3]
  · rename_i hge
    cases hs:AV.setAts xs (off-x.fsz) n g y with
    | none=>rw [hs] at h;cases h
    | some ys' =>
      rw [hs] at h;cases h
      obtain ⟨h3,cs2,h4,h5⟩:=zaeM xs h2 hs hy hn hg
      refine ⟨by simp at h3 hsz ⊢;omega,_,.ccons h1 h4,?_⟩
      rw [zacX (by omega),h5,hsz]
end
theorem RR.cs_setElem {E:Env}{sz:Nat}{y:AV}{u:Value}(hy:VR E y u)(hu:u.cells.size=sz):∀ (xs:List AV) (k:Nat) {cs:List Value},RR E .cs xs cs->(∀ x∈xs,x.fsz=sz)->k<xs.length ->
  RR E .cs (xs.set k y) (spl cs (k*sz) u.cells.toList)/\k*sz+sz<=cs.length
 | [],_,_,_,_,h=>by simp at h
 | x::xs,0,cs,hx,h1,_=>by
  obtain ⟨v,cs',h2,h3,rfl⟩:=hx.cs_cons_inv
  have hs:=h2.size
  rw [h1 x (List.mem_cons_self ..)] at hs
  have:=RR.ccons hy h3
  refine ⟨?_,by simp;omega⟩
  rw [Nat.zero_mul,zagl (by simp;omega),zads (by simp;omega)]
  exact this
 | x::xs,k+1,cs,hx,h1,hlt=>by
  obtain ⟨v,cs',h2,h3,rfl⟩:=hx.cs_cons_inv
  have hs:v.cells.toList.length=sz:=by simpa [h1 x (List.mem_cons_self ..)] using h2.size
  obtain ⟨h4,h5⟩:=RR.cs_setElem hy hu xs k h3 (fun y hy=>h1 y (List.mem_cons_of_mem _ hy)) (by simpa using hlt)
  refine ⟨?_,by simp [Nat.succ_mul] at hs h5 ⊢;omega⟩
  rw [zacX (by rw [hs,Nat.succ_mul];omega),hs,show (k+1)*sz-sz=k*sz by rw [Nat.succ_mul];omega]
  exact .ccons h2 h4
theorem zavq {cs:List Value}{a:Nat}(ha:a+n<=cs.length)(ho:off+vs.length<=n) :
  spl cs a (spl ((cs.drop a).take n) off vs)=spl cs (a+off) vs:=by
 apply List.ext_getElem?;intro j
 have hl:((cs.drop a).take n).length=n:=by simp;omega
 have h1:(spl ((cs.drop a).take n) off vs).length=n:=by rw [zacc (by omega),hl]
 have e1:=zac8 (c:=cs) (vs:=spl ((cs.drop a).take n) off vs) (off:=a) (by omega) j
 have e2:=zac8 (c:=cs) (vs:=vs) (off:=a+off) (by omega) j
 have e3:=zac8 (c:=(cs.drop a).take n) (vs:=vs) (off:=off) (by omega) (j-a)
 rw [e1,e2,h1]
 by_cases hj:a<=j/\j<a+n
 · rw [if_pos hj,e3]
   by_cases hj2:a+off<=j/\j<a+off+vs.length
   · rw [if_pos hj2,if_pos (by omega)];congr 1;omega
   · rw [if_neg hj2,if_neg (by omega),List.getElem?_take,if_pos (by omega),List.getElem?_drop];congr 1;omega
 · rw [if_neg hj,if_neg (by omega)]
end
end Go.AS
