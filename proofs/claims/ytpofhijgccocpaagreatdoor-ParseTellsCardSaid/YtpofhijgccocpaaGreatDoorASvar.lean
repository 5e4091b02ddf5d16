/- What a row's list of laid variables says of a world: errors and tables of the library. -/
import Derived.Test.YtpofhijgccocpaaGreatDoorASlaw
import Derived.Lib.LaidTab
import Derived.ChangeMade
import Derived.Deep.Slices
namespace Go.AS
noncomputable section
open Go.RowKit Go.WideShapes Go.ChangeShapes
section
variable {P:Program} {W:World}
theorem zagA {n:String}{d:DataW Unit}:∀ {l:List (String × DataW Unit)} {ps:List MemPlace},DataW.LaidVars P W l ps->(n,d)∈l ->
  ∃ g t cs fuel p,P.globalNamed n=some g/\(P.globals[g]?).map (·.type)=some t/\W.var? P n=some cs/\DataW.trod (fun _=>()) P W 0 (fun _=>true) false fuel t cs.toList=some (d,p)/\∀ x∈MemPlace.row ⟨g,0,none⟩ cs.size,x∈ps
 | [],_,_,h=>by cases h
 | (m,e)::r,ps,⟨g,t,cs,fuel,p,q,h1,h2,h3,h4,h5,h6⟩,h=>by
  rcases List.mem_cons.1 h with h|h
  · cases h;exact ⟨g,t,cs,fuel,p,h1,h2,h3,h4,fun x hx=>by rw [h6];exact List.mem_append_left _ (List.mem_append_left _ hx)⟩
  · obtain ⟨g,t,cs,fuel,p,k1,k2,k3,k4,k5⟩:=zagA h5 h
    exact ⟨g,t,cs,fuel,p,k1,k2,k3,k4,fun x hx=>by rw [h6];exact List.mem_append_right _ (k5 x hx)⟩
theorem zak1 {n:String}{g:Nat}{cs:Array Value}(hg:P.globalNamed n=some g)(h:W.var? P n=some cs):∃ t fz,W.heap[g]?=some (.cells cs t fz):=by
 unfold World.var? at h
 rw [hg,Option.bind_some] at h
 split at h
 · rename_i c t fz hc;cases h;exact ⟨t,fz,hc⟩
 · cases h
theorem zami {t:TypeId} {ms:Array (String × TypeId)} (ht:P.underlying t=some (.interface ms)) {fuel:Nat} {cs:List Value} {nm:String} {d:DataW Unit} {p:List MemPlace}
  (h:DataW.trod (fun _=>()) P W 0 (fun _=>true) false fuel t cs=some (.iface nm d,p)):∃ u v n,cs=[.iface u v]/\P.typeName? 3 u=some nm/\DataW.trod (fun _=>()) P W 0 (fun _=>true) false n u v.cells.toList=some (d,p):=by
 cases fuel with
 | zero=>simp [DataW.trod] at h
 | succ n =>
  simp only [DataW.trod,ht] at h
  split at h
  case h_12 u v _ =>
   cases hn:P.typeName? 3 u with
   | none=>rw [hn] at h;simp at h
   | some name =>
    rw [hn] at h
    simp only [Option.map_eq_some_iff,Prod.mk.injEq,DataW.iface.injEq] at h
    obtain ⟨y,h1,⟨rfl,rfl⟩,rfl⟩:=h
    exact ⟨u,v,n,rfl,hn,h1⟩
  all_goals simp_all
theorem zam0 {a:Addr}{k:Nat}{vs:List Value}(h:W.cells? 0 a (k+1)=some vs):∃ (c:Array Value) (t:TypeId) (fz:Nat × Nat) (rest:List Value),a.spot=none/\W.heap[a.block]?=some (.cells c t fz)/\c.toList.drop a.off=vs++rest:=by
 obtain ⟨_,hlen,hcell⟩:=World.cells?_some h
 obtain ⟨b,off,spot⟩:=a
 have h0:=hcell 0 (by omega)
 have hh:∃ (c:Array Value) (t:TypeId) (fz:Nat × Nat),W.heap[b]?=some (.cells c t fz)/\spot=none:=by
  unfold World.cell? at h0
  cases hh:W.heap[b]? with
  | none=>simp [Addr.add,hh] at h0;rw [h0] at hlen;cases hlen
  | some o =>
   cases o with
   | cells c t fz =>
    cases spot with
    | none=>exact ⟨c,t,fz,rfl,rfl⟩
    | some s=>simp [Addr.add,hh] at h0;rw [h0] at hlen;cases hlen
   | _=>simp [Addr.add,hh] at h0;rw [h0] at hlen;cases hlen
 obtain ⟨c,t,fz,hh,rfl⟩:=hh
 refine ⟨c,t,fz,c.toList.drop (off+(k+1)),rfl,hh,?_⟩
 apply List.ext_getElem?
 intro i
 by_cases hi:i<k+1
 · have h1:=hcell i hi
   rw [List.getElem?_append_left (by omega),List.getElem?_drop]
   have e:W.cell? (Addr.add ⟨b,off,none⟩ i)=c[off+i]?:=by
     have:Addr.add ⟨b,off,none⟩ i=⟨b,off+i,none⟩:=by simp [Addr.add]
     rw [this];simp [World.cell?,hh]
   rw [e] at h1
   rw [Array.getElem?_toList,h1]
 · rw [List.getElem?_append_right (by omega),List.getElem?_drop,List.getElem?_drop]
   show c.toList[off+i]?=c.toList[off+(k+1)+(i-vs.length)]?
   rw [show off+(k+1)+(i-vs.length)=off+i by omega]
theorem zaqT {l:List (String × DataW Unit)}(h:laidMet P l W){n nm:String}{bs:List UInt8}(hm:(n,(.iface nm (.ptr (.agg [.lit (.string bs)])):DataW Unit))∈l) {g t uP uS:TypeId} {ms:Array (String × TypeId)} {f0:Field}
  (hg:P.globalNamed n=some g) (ht:(P.globals[g]?).map (·.type)=some t) (hti:P.underlying t=some (.interface ms)) (hu:∀ u,P.typeName? 3 u=some nm->u=uP) (hp:P.underlying uP=some (.pointer uS))
  (hs:P.underlying uS=some (.struct #[f0])) (ho:f0.offset=0) (hf:P.underlying f0.type=some .string) (c1:P.cellsOf uS=1) (c2:P.cellsOf f0.type=1) :
  GV ⟨fun _=>none,fun b=>W.heap[b]?⟩ (.ref (.iface uP (.ref (.agg [.lit (.string ⟨bs.toArray⟩)])))) g:=by
 obtain ⟨ps,hL,_,hcell⟩:=h
 obtain ⟨g',t',cs,fuel,p,h1,h2,h3,h4,h5⟩:=zagA hL hm
 obtain rfl:=Option.some.inj (hg.symm.trans h1)
 obtain rfl:=Option.some.inj (ht.symm.trans h2)
 obtain ⟨tt,fz,hh⟩:=zak1 hg h3
 obtain ⟨u,v,n',hcs,hn,hv⟩:=zami hti h4
 obtain rfl:=hu u hn
 rcases DataW.trod_pointer hp hv with ⟨_,e⟩|⟨a,cs',y,n2,_,e1,e2,e3,e4⟩
 · cases e
 · have hsz:cs.size=1:=by rw [<-Array.length_toList,hcs];rfl
   have hmem:MemPlace.cell g 0∈ps:=h5 _ (MemPlace.mem_row.2 ⟨0,by omega,rfl⟩)
   have hw:=(hcell g 0 hmem).2 u v (by
     simp only [World.cell?,hh]
     rw [<-Array.getElem?_toList,hcs];rfl)
   have hval:v = .pointer (some a):=by
     rcases okWide_pointer hp hw with ⟨b,rfl⟩
     simpa [Value.cells] using e1
   subst hval
   rw [c1] at e3
   obtain ⟨y0,n3,e5,hl,e6⟩:=trod_struct1 hs e4
   rw [ho,c2,List.drop_zero] at e6
   obtain ⟨s,e7,rfl,_⟩:=DataW.trod_string hf e6
   have hcs':cs'=[.string s]:=by
     rw [c1] at hl
     rw [List.take_of_length_le (by omega)] at e7
     exact e7
   subst hcs'
   have hy:y.1 = .agg [.lit (.string s.data.toList)]:=by rw [e5]
   rw [hy] at e2
   have hbs:bs=s.data.toList:=by
     have:=(Prod.mk.inj e2).1
     simpa using this
   obtain ⟨c,t2,fz2,rest,hsp,hb,hd⟩:=zam0 e3
   obtain ⟨b,off,spot⟩:=a
   have hsp:spot=none:=hsp
   subst hsp
   have es:(⟨bs.toArray⟩:ByteArray)=s:=by rw [hbs]
   rw [es]
   refine ⟨?_,fun vs hvs=>by cases hvs⟩
   have hin:RR (Env.pure ⟨fun _=>none,fun b=>W.heap[b]?⟩) .o [.ref (.agg [.lit (.string s)])] [.pointer (some ⟨b,off,none⟩)] :=
     .ref (t:=t2) (fz:=fz2) (cs:=[.string s]) (rest:=rest) hb (.ccons (v := .agg #[.string s]) (.agg (cs:=[.string s]) (.ccons (.lit _) .cnil)) .cnil) hd
   exact .ref (t:=tt) (fz:=fz) (cs:=[.iface u (.pointer (some ⟨b,off,none⟩))]) (rest:=[]) hh (.ccons (v := .iface u (.pointer (some ⟨b,off,none⟩))) (.iface _ hin) .cnil) (by show cs.toList.drop 0=_;rw [List.drop_zero,hcs];rfl)
theorem zahF (k:IntKind):∀ zs:List Int,zaiB (zs.map fun z => .lit (.int k z))=some (zs.map fun z => .int k z)
 | []=>rfl
 | z::zs=>by rw [List.map_cons,zaiB,zahF k zs];rfl
theorem zavJ {E:Env}(k:IntKind):∀ zs:List Int,RR E .cs (zs.map fun z => .lit (.int k z)) (zs.map fun z => .int k z)
 | [] => .cnil
 | z::zs => .ccons (v := .int k z) (.lit _) (zavJ k zs)
theorem zavl {l:List (String × DataW Unit)} (h:laidMet P l W) {n:String} {k:IntKind} {zs:List Int} (hm:(n,(Lib.tabData k zs:DataW Unit))∈l) {g t e:TypeId} {len:Nat}
  (hg:P.globalNamed n=some g) (ht:(P.globals[g]?).map (·.type)=some t) (hta:P.underlying t=some (.array len e)) (he:P.underlying e=some (.int k)) (hce:P.cellsOf e=1) (hct:P.cellsOf t=len) :
  GV ⟨fun _=>none,fun b=>W.heap[b]?⟩ (.ref (.agg (zs.map fun z => .lit (.int k z)))) g:=by
 obtain ⟨ps,hL,_,hcell⟩:=h
 obtain ⟨g',t',cs,fuel,p,h1,h2,h3,h4,h5⟩:=zagA hL hm
 obtain rfl:=Option.some.inj (hg.symm.trans h1)
 obtain rfl:=Option.some.inj (ht.symm.trans h2)
 obtain ⟨tt,fz,hh⟩:=zak1 hg h3
 have hcs:=Lib.cells_of_tab hta he hce hct h4
 refine ⟨.ref (t:=tt) (fz:=fz) (cs:=zs.map fun z => .int k z) (rest:=[]) hh ?_ (by rw [List.drop_zero,hcs,List.append_nil]),fun vs hvs=>⟨tt,fz,?_⟩⟩
 · have:=RR.ccons (v := .agg (zs.map fun z => .int k z).toArray) (.agg (zavJ (E:=Env.pure ⟨fun _=>none,fun b=>W.heap[b]?⟩) k zs)) .cnil
   have e:(Value.agg (zs.map fun z=>Value.int k z).toArray).cells.toList++[]=zs.map fun z => .int k z:=by rw [List.append_nil];rfl
   rw [e] at this;exact this
 · have hvs:zaiB (zs.map fun z => .lit (.int k z))=some vs:=hvs
   rw [zahF] at hvs
   cases hvs
   show W.heap[g]?=_
   rw [hh,<-hcs]
theorem zamQ {α:Type}{l:List α}{off:Nat}(g:Nat->α):∀ k:Nat,(∀ i,i<k->l[off+i]?=some (g i))->l.drop off=(List.range k).map g++l.drop (off+k)
 | 0,_=>by simp
 | k+1,h=>by
  have h1:=h k (by omega)
  rw [zamQ g k fun i hi=>h i (by omega),List.range_succ,List.map_append,List.append_assoc]
  congr 1
  obtain ⟨h2,h3⟩:=List.getElem?_eq_some_iff.1 h1
  rw [List.drop_eq_getElem_cons h2,h3];rfl
theorem zapR {E:Env}(k:IntKind):∀ l:List Int,RR E .cs (l.map fun z => .lit (.int k z)) (l.map fun z => .int k z)
 | [] => .cnil
 | z::l => .ccons (v := .int k z) (.lit _) (zapR k l)
theorem zanY {H:Type} {enc:TypeId × Value->H} {spare:Nat->Bool} {held:Bool} {t e:TypeId} {k:IntKind} (ht:P.underlying t=some (.slice e)) (he:P.underlying e=some (.int k)) (hc:P.cellsOf e=1) {n:Nat} {v:Value} {d:DataW H} {p:List MemPlace}
  (h:DataW.trod enc P W 0 spare held n t [v]=some (d,p)):∃ xs:List Int,VR ⟨fun _=>none,fun b=>W.heap[b]?⟩ (.lst false 1 (xs.map fun z => .lit (.int k z))) v/\∀ x∈xs,k.min<=x/\x<=k.max:=by
 rcases Go.Deep.open_slice ht h with ⟨e0,_⟩|⟨a,len,cap,m,n',D,Pl,e0,hb,hl,hm,hmm,_,hx⟩
 · cases e0
   exact ⟨[],.lstE 1 none (fun h=>by cases h),fun x hx=>by cases hx⟩
 · cases e0
   have hlm:len<=m:=by rw [hmm];split<;>omega
   have each:∀ i,i<len->∃ z:Int,W.cell? (a.add i)=some (.int k z)/\(k.min<=z/\z<=k.max):=by
     intro i hi
     obtain ⟨cs',h1,h2⟩:=hx i (by omega)
     rw [hc,Nat.mul_one] at h1
     obtain ⟨_,hlen,hcell⟩:=World.cells?_some h1
     obtain ⟨z,rfl,_,hw⟩:=DataW.trod_int he h2
     have e0:=hcell 0 (by omega)
     have e1:Addr.add (Addr.add a i) 0=Addr.add a i:=by rw [Go.Deep.add_add];rfl
     rw [e1] at e0
     simp only [Lit.wf,Bool.and_eq_true,decide_eq_true_eq] at hw
     exact ⟨z,e0,hw⟩
   obtain ⟨q,hq⟩:=Go.Deep.choose_lt each
   refine ⟨(List.range len).map q,?_,fun x hx' => ?_⟩
   · cases len with
     | zero=>exact .lstE 1 _ (fun h=>by cases h)
     | succ len =>
       have h0:=(hq 0 (by omega)).1
       obtain ⟨b,off,spot⟩:=a
       have hcell:∃ (c:Array Value) (t:TypeId) (fz:Nat × Nat),W.heap[b]?=some (.cells c t fz)/\spot=none:=by
         unfold World.cell? at h0
         cases hh:W.heap[b]? with
         | none=>simp [Addr.add,hh] at h0
         | some o =>
           cases o with
           | cells c t fz =>
             cases spot with
             | none=>exact ⟨c,t,fz,rfl,rfl⟩
             | some s=>simp [Addr.add,hh] at h0
           | _=>simp [Addr.add,hh] at h0
       obtain ⟨c,t,fz,hh,rfl⟩:=hcell
       have hg:∀ i,i<len+1->c.toList[off+i]?=some (.int k (q i)):=fun i hi=>by
         have:=(hq i hi).1
         have e:Addr.add ⟨b,off,none⟩ i=⟨b,off+i,none⟩:=by simp [Addr.add]
         rw [e] at this
         simp only [World.cell?,hh] at this
         simpa using this
       have hd:=zamQ (fun i=>Value.int k (q i)) (len+1) hg
       refine .lst (cs:=((List.range (len+1)).map q).map fun z => .int k z) (rest:=c.toList.drop (off+(len+1))) hh (zapR k _) (by rw [hd,List.map_map];rfl) (fun x hx=>by obtain ⟨y,_,rfl⟩:=List.mem_map.1 hx;rfl) (by simp) hl (fun h=>by cases h) (fun u hu=>by obtain ⟨y,_,rfl⟩:=List.mem_map.1 hu;rfl)
   · obtain ⟨i,hi,rfl⟩:=List.mem_map.1 hx'
     exact (hq i (List.mem_range.1 hi)).2
theorem zaiz {T:Tables}{u e:TypeId}{i:TypeInfo}(hu:¬u<T.types.size)(h:T.info? u=some i)(hd:i.desc = .pointer e):∃ f j,Made.infoAt T (f+1) e=some j/\∀ n r,j.desc ≠ .named n r:=by
 unfold Tables.info? at h
 rw [if_neg hu] at h
 unfold Made.depth at h
 unfold Made.infoAt at h
 rw [if_neg hu] at h
 simp only [Option.bind_eq_some_iff] at h
 obtain ⟨d,hdec,h⟩:=h
 clear hdec
 refine ⟨98,?_⟩
 have h:Made.reckon (Made.infoAt T 99) d=some i:=h
 have hdd:i.desc=d∨∃ fs,d = .struct fs/\∃ gs,i.desc = .struct gs:=by
  cases d with
  | pointer e' =>
   left
   unfold Made.reckon at h
   obtain ⟨j,_,h⟩:=Option.bind_eq_some_iff.1 h
   split at h
   · cases h
   · split at h
     · cases h
     · obtain ⟨s,_,h⟩:=Option.bind_eq_some_iff.1 h;cases h;rfl
   · obtain ⟨s,_,h⟩:=Option.bind_eq_some_iff.1 h;cases h;rfl
  | slice e' =>
   left
   unfold Made.reckon at h
   obtain ⟨j,_,h⟩:=Option.bind_eq_some_iff.1 h
   obtain ⟨s,_,h⟩:=Option.bind_eq_some_iff.1 h;cases h;rfl
  | map k e' =>
   left
   unfold Made.reckon at h
   obtain ⟨j,_,h⟩:=Option.bind_eq_some_iff.1 h
   obtain ⟨j,_,h⟩:=Option.bind_eq_some_iff.1 h
   obtain ⟨j,_,h⟩:=Option.bind_eq_some_iff.1 h
   obtain ⟨s,_,h⟩:=Option.bind_eq_some_iff.1 h;cases h;rfl
  | chan d e' =>
   left
   unfold Made.reckon at h
   obtain ⟨j,_,h⟩:=Option.bind_eq_some_iff.1 h
   obtain ⟨s,_,h⟩:=Option.bind_eq_some_iff.1 h;cases h;rfl
  | func ps rs v =>
   left
   unfold Made.reckon at h
   obtain ⟨s,_,h⟩:=Option.bind_eq_some_iff.1 h;cases h;rfl
  | array n e' =>
   left
   unfold Made.reckon at h
   obtain ⟨j,_,h⟩:=Option.bind_eq_some_iff.1 h
   obtain ⟨s,_,h⟩:=Option.bind_eq_some_iff.1 h;cases h;rfl
  | struct fs =>
   right
   refine ⟨fs,rfl,?_⟩
   have hb:=Made.reckon_desc h
   unfold Made.reckon Made.reckonStruct at h
   simp only [bind,Option.bind_eq_some_iff,pure] at h
   obtain ⟨a,_,h⟩:=h
   split at h<;>(cases h;exact ⟨_,rfl⟩)
  | _=>unfold Made.reckon at h;cases h
 rcases hdd with he|⟨fs,rfl,gs,he⟩
 · rw [hd] at he
   subst he
   unfold Made.reckon at h
   obtain ⟨j,h1,h2⟩:=Option.bind_eq_some_iff.1 h
   exact ⟨j,h1,fun n r e=>by simp only [e] at h2;cases h2⟩
 · rw [hd] at he;cases he
theorem zavo (s:String) : "*" ++ s ≠ "errors.errorString" := fun h=>by
 have:=congrArg String.toList h
 rw [String.toList_append] at this
 cases this
theorem zavp {s:String}(h : "*" ++ s = "*errors.errorString"):s = "errors.errorString" := by
 have h2:=congrArg String.toList h
 rw [String.toList_append] at h2
 have h3:Char.ofNat 42::s.toList=Char.ofNat 42 :: "errors.errorString".toList:=h2
 exact String.ext_iff.2 (List.cons.inj h3).2
theorem zao8 {uP:TypeId} (h1:((List.range P.types.size).all fun u=>!(decide (P.typeName? 3 u=some "*errors.errorString"))||Nat.beq u uP)=true)
  (h2:(P.types.toList.all fun i=>!(decide (i.str = "errors.errorString"))||match i.desc with | .bool | .int _ | .float _ | .string=>false|_=>true)=true) (u:TypeId) (h:P.typeName? 3 u=some "*errors.errorString"):u=uP:=by
 by_cases hu:u<P.types.size
 · have:=List.all_eq_true.1 h1 u (List.mem_range.2 hu)
   rw [decide_eq_true h,Bool.not_true,Bool.false_or] at this
   exact Nat.eq_of_beq_eq_true this
 · exfalso
   unfold Program.typeName? at h
   cases hi:P.info? u with
   | none=>rw [hi] at h;cases h
   | some i =>
     have hb:=Tables.info?_beyond hu hi
     rw [hi] at h
     simp only at h
     cases hd:i.desc with
     | pointer e =>
       obtain ⟨f,j,k1,k2⟩:=zaiz hu hi hd
       rw [hd] at h
       simp only [Option.map_eq_some_iff] at h
       obtain ⟨nm,g1,g2⟩:=h
       have g2:=zavp g2
       subst g2
       unfold Program.typeName? at g1
       cases he:P.info? e with
       | none=>rw [he] at g1;cases g1
       | some i2 =>
         rw [he] at g1
         simp only at g1
         have basic:e<P.types.size->i2.str = "errors.errorString" -> (match i2.desc with | .bool | .int _ | .float _ | .string=>false|_=>true)=true:=fun hlt hs=>by
           have:P.types[e]?=some i2:=by
             have h':=he
             unfold Tables.info? at h'
             rw [if_pos hlt] at h';exact h'
           have:=List.all_eq_true.1 h2 i2 (Array.mem_toList_iff.2 (Array.mem_of_getElem? this))
           rw [decide_eq_true hs,Bool.not_true,Bool.false_or] at this
           exact this
         have named:∀ n r,i2.desc ≠ .named n r:=fun n r hn=>by
           by_cases hlt:e<P.types.size
           · have e1:P.types[e]?=some i2:=by
               have h':=he
               unfold Tables.info? at h'
               rw [if_pos hlt] at h';exact h'
             have e2:P.types[e]?=some j:=by
               unfold Made.infoAt at k1
               rw [if_pos hlt] at k1;exact k1
             rw [e1] at e2;cases e2
             exact k2 n r hn
           · have:=Tables.info?_beyond hlt he
             rw [hn] at this;cases this
         cases hd2:i2.desc with
         | named n r=>exact named n r hd2
         | pointer e2 =>
           rw [hd2] at g1
           simp only [Option.map_eq_some_iff] at g1
           obtain ⟨nm2,_,g3⟩:=g1
           exact zavo nm2 g3
         | bool =>
           rw [hd2] at g1;simp only at g1;split at g1
           · cases g1
           · by_cases hlt:e<P.types.size
             · have:=basic hlt (Option.some.inj g1);rw [hd2] at this;cases this
             · have:=Tables.info?_beyond hlt he;rw [hd2] at this;cases this
         | int k =>
           rw [hd2] at g1;simp only at g1;split at g1
           · cases g1
           · by_cases hlt:e<P.types.size
             · have:=basic hlt (Option.some.inj g1);rw [hd2] at this;cases this
             · have:=Tables.info?_beyond hlt he;rw [hd2] at this;cases this
         | float k =>
           rw [hd2] at g1;simp only at g1;split at g1
           · cases g1
           · by_cases hlt:e<P.types.size
             · have:=basic hlt (Option.some.inj g1);rw [hd2] at this;cases this
             · have:=Tables.info?_beyond hlt he;rw [hd2] at this;cases this
         | string =>
           rw [hd2] at g1;simp only at g1;split at g1
           · cases g1
           · by_cases hlt:e<P.types.size
             · have:=basic hlt (Option.some.inj g1);rw [hd2] at this;cases this
             · have:=Tables.info?_beyond hlt he;rw [hd2] at this;cases this
         | _=>rw [hd2] at g1;cases g1
     | named n r=>rw [hd] at hb;cases hb
     | bool=>rw [hd] at hb;cases hb
     | int k=>rw [hd] at hb;cases hb
     | float k=>rw [hd] at hb;cases hb
     | string=>rw [hd] at hb;cases hb
     | _=>rw [hd] at h;cases h
end
end
end Go.AS
