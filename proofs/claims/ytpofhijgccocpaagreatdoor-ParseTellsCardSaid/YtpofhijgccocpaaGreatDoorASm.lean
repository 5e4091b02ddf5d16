/- One operation, of any kind but a call. -/
import Derived.Test.YtpofhijgccocpaaGreatDoorASar
namespace Go.AS
noncomputable section
inductive Ct where
 | det (g:Id->Nat->List AV->Hp->Option Res)
 | gen (s:Id->Nat->List AV->Hp->(AV->Upd->Prop)->Prop)
structure Cx where
 P:Program
 B:Tb
 gl:Nat->Option AV
 ct:FuncId->Option Ct
 own:Nat->Bool
 lab:Id->Nat->Nat
def zaiB:List AV->Option (List Value)
 | []=>some []
 | .lit v::r=>match zaiB r with
  | some vs=>some (v::vs)
  | none=>none
 | _=>none
def tabA:AV->Option (List Value)
 | .ref (.agg xs)=>zaiB xs
 | _=>none
structure GV (E:Env) (x:AV) (g:Nat):Prop where
 vr:VR E x (.pointer (some ⟨g,0,none⟩))
 tab:∀ vs,tabA x=some vs->∃ t fz,E.m g=some (.cells vs.toArray t fz)
theorem GV.mono {E E':Env}{x:AV}{g:Nat}(h:GV E x g)(hE:E.le E'):GV E' x g:=⟨h.vr.mono hE,fun vs hv=>let ⟨t,fz,k⟩:=h.tab vs hv;⟨t,fz,hE.m _ _ k⟩⟩
def GL (C:Cx)(E:Env):Prop:=∀ g x,C.gl g=some x->GV E x g
theorem GL.mono {C:Cx}{E E':Env}(h:GL C E)(hE:E.le E'):GL C E':=fun g x hg=>(h g x hg).mono hE
structure FR (E:Env) (n:Nat) (fr:Fr) (a:Act):Prop where
 size:a.tmps.size=n
 defers:a.defers=[]
 at_:∀ t x,aget fr t=some x->∃ v,a.tmps[t]?=some v/\VR E x v
theorem FR.mono {E E':Env}{n:Nat}{fr:Fr}{a:Act}(h:FR E n fr a)(hE:E.le E'):FR E' n fr a :=
 ⟨h.size,h.defers,fun t x ht=>let ⟨v,h1,h2⟩:=h.at_ t x ht;⟨v,h1,h2.mono hE⟩⟩
def ev (C:Cx)(fr:Fr):Operand->Option AV
 | .tmp t=>aget fr t
 | .const v=>some (.lit v)
 | .global g=>C.gl g
 | .func f=>some (.lit (.func (.func f) #[] #[]))
theorem zaaj {C:Cx}{E:Env}(hg:GL C E){n:Nat}{fr:Fr}{a:Act}(hf:FR E n fr a){o:Operand}{x:AV}(h:ev C fr o=some x):VR E x (a.eval o):=by
 cases o with
 | tmp t =>
  obtain ⟨v,h1,h2⟩:=hf.at_ t x h
  simp only [Act.eval,Array.getD_eq_getD_getElem?,h1,Option.getD_some];exact h2
 | const v=>cases h;exact .lit _
 | global g=>exact (hg g x h).vr
 | func f=>cases h;exact .lit _
def evs (C:Cx)(fr:Fr):List Operand->Option (List AV)
 | []=>some []
 | o::r=>match ev C fr o,evs C fr r with
  | some x,some xs=>some (x::xs)
  | _,_=>none
theorem zabJ {C:Cx}{E:Env}(hg:GL C E){n:Nat}{fr:Fr}{a:Act}(hf:FR E n fr a):∀ {os:List Operand} {xs:List AV},evs C fr os=some xs->RR E .vs xs (os.map a.eval)
 | [],xs,h=>by cases h;exact .vnil
 | o::r,xs,h=>by
  unfold evs at h
  split at h
  · rename_i x xs' h1 h2;cases h;exact .vcons (zaaj hg hf h1) (zabJ hg hf h2)
  · cases h
def evp (C:Cx)(fr:Fr):List (Nat × Operand)->Option (List (Nat × AV))
 | []=>some []
 | o::r=>match ev C fr o.2,evp C fr r with
  | some x,some xs=>some ((o.1,x)::xs)
  | _,_=>none
theorem zagM {C:Cx}{E:Env}(hg:GL C E){n:Nat}{fr:Fr}{a:Act}(hf:FR E n fr a):∀ {os:List (Nat × Operand)} {xs:List (Nat × AV)},evp C fr os=some xs ->
  (os.map fun (i,x)=>(i,a.eval x)).map (·.1)=xs.map (·.1)/\RR E .vs (xs.map (·.2)) ((os.map fun (i,x)=>(i,a.eval x)).map (·.2))
 | [],xs,h=>by cases h;exact ⟨rfl,.vnil⟩
 | o::r,xs,h=>by
  unfold evp at h
  split at h
  · rename_i x xs' h1 h2;cases h
    obtain ⟨h3,h4⟩:=zagM hg hf h2
    exact ⟨by simp only [List.map_cons];rw [h3],.vcons (zaaj hg hf h1) h4⟩
  · cases h
def evo (C:Cx)(fr:Fr):Option Operand->Option (Option Int)
 | none=>some none
 | some o=>match ev C fr o with
  | some (.lit (.int _ n))=>some (some n)
  | _=>none
theorem zagN {C:Cx}{E:Env}(hg:GL C E){n:Nat}{fr:Fr}{a:Act}(hf:FR E n fr a){o:Option Operand}{r:Option Int}(h:evo C fr o=some r):bndR r (o.map a.eval):=by
 unfold evo at h
 split at h
 · cases h;trivial
 · split at h
   · rename_i k m he;cases h
     have:=(zaaj hg hf he).lit_inv
     exact ⟨k,this⟩
   · cases h
def okd (o:Option AV):Option Res:=match o with|some x=>some ⟨x,[],true⟩|none=>none
def okl (o:Option Value):Option Res:=match o with|some x=>some ⟨.lit x,[],true⟩|none=>none
def okg (o:Option (Value × Bool))(e:Option AV):Option Res:=match o with|some (x,g)=>some ⟨.lit x,[],g⟩|none=>okd e
def zaxk:AV->Bool
 | .ptr .. | .ref _=>true
 | .fn (.func _) _ _=>true
 | .lit (.func (.func _) _ _)=>true
 | .iface .. | .lit (.iface ..)=>true
 | _=>false
def zagU (C:Cx)(look:Nat->Option Ent)(p:Id)(d:Nat)(b:Builtin)(ts:Array TypeId)(xs:List AV):Option Res :=
 match b with
 | .len=>match ts.toList,xs with
  | [t],[x]=>match ti C.B t with
   | some T=>match lenE T x with
    | some n=>some ⟨.lit (.int .i64 n),[],true⟩
    | none=>none
   | none=>none
  | _,_=>none
 | .append=>match ts.toList,xs with
  | [t,t2],[x,y]=>match ti C.B t,ti C.B t2 with
   | some T,some T2=>zahW C.B T T2 look x y d p
   | _,_=>none
  | _,_=>none
 | .min=>match xs with
  | [.lit u,.lit v]=>okl (zaoe (Builtin.min_ ts 0 #[u,v]))
  | _=>none
 | _=>none
def zaBy (d:Nat)(p:Id)(own:Bool)(sz:Nat)(xs:List AV):Res :=
 match zaaD xs with
 | true=>match own with
  | true=>⟨.slc d p 0 xs.length,[(d,⟨p,.row true sz xs⟩)],true⟩
  | false=>⟨.lst true sz xs,[],true⟩
 | false=>⟨.slc d p 0 xs.length,[(d,⟨p,.row false sz xs⟩)],true⟩
def zawW (C:Cx)(fr:Fr)(look:Nat->Option Ent)(p:Id)(o:Oper)(c:Operand)(a:Operand)(b:Operand):Option Res:=match ev C fr c with
  | some (.lit (.bool t))=>match t with
   | true=>okd (ev C fr a)
   | false=>okd (ev C fr b)
  | _=>none
def zaqh (C:Cx)(fr:Fr)(look:Nat->Option Ent)(p:Id)(o:Oper)(t:TypeId):Option Res:=match ti C.B t with
  | some T=>match zaBQ C.B T t with
   | some z=>some (newA C.B T (C.lab p (o.dst.getD 0)) p z)
   | none=>none
  | none=>none
def zaEw (C:Cx)(fr:Fr)(p:Id)(o:Oper)(t:TypeId)(x:Operand):Option Res:=match ev C fr x with
  | some y=>match y.storable with
   | true=>match C.own (o.dst.getD 0)||!zabF y with
    | true=>some (newT C.B t (C.lab p (o.dst.getD 0)) p y)
    | false=>some ⟨.ref y,[],true⟩
   | false=>none
  | none=>none
def zaqf (C:Cx)(fr:Fr)(look:Nat->Option Ent)(p:Id)(o:Oper)(t:TypeId)(ps:Array (Nat × Operand)):Option Res:=match ti C.B t,evp C fr ps.toList with
  | some T,some xs=>okd (zaun C.B T t xs)
  | _,_=>none
def zaeZ (C:Cx)(fr:Fr)(look:Nat->Option Ent)(p:Id)(o:Oper)(t:TypeId)(n:Nat)(ps:Array (Nat × Operand)):Option Res:=match ti C.B t,evp C fr ps.toList with
  | some T,some xs=>match zaeb C.B T n xs with
   | some (_,U,ys)=>some (zaBy (C.lab p (o.dst.getD 0)) p (C.own (o.dst.getD 0)) U.size ys)
   | none=>none
  | _,_=>none
def zasw (C:Cx)(fr:Fr)(look:Nat->Option Ent)(p:Id)(o:Oper)(t:TypeId)(x:Operand):Option Res:=match ti C.B t,ev C fr x with
  | some T,some y=>okd (zasG T look y)
  | _,_=>none
def zalN (C:Cx)(fr:Fr)(look:Nat->Option Ent)(p:Id)(o:Oper)(t:TypeId)(x:Operand)(y:Operand):Option Res:=match ti C.B t,ev C fr x,ev C fr y with
  | some T,some u,some v=>match zalj T look v u with
   | some upd=>some ⟨.lit undef,upd,true⟩
   | none=>none
  | _,_,_=>none
def zaio (C:Cx)(fr:Fr)(look:Nat->Option Ent)(p:Id)(o:Oper)(t:TypeId)(x:Operand)(i:Operand)(c:Bool):Option Res:=match ti C.B t,ev C fr x,ev C fr i with
  | some T,some y,some k=>okd (zafV C.P C.B T look y k c)
  | _,_,_=>none
def zalP (C:Cx)(fr:Fr)(look:Nat->Option Ent)(p:Id)(o:Oper)(t:TypeId)(m:Operand)(k:Operand)(x:Operand):Option Res:=match ti C.B t,ev C fr m,ev C fr k,ev C fr x with
  | some T,some a,some b,some y=>match zama C.P C.B T look a b y with
   | some upd=>some ⟨.lit undef,upd,true⟩
   | none=>none
  | _,_,_,_=>none
def zajn (C:Cx)(fr:Fr)(look:Nat->Option Ent)(p:Id)(o:Oper)(r:Option Operand):Option Res:=match r with
  | none=>some ⟨.mp (C.lab p (o.dst.getD 0)) p,[(C.lab p (o.dst.getD 0),⟨p,.map true [] []⟩)],true⟩
  | some _=>none
def zahp (C:Cx)(fr:Fr)(look:Nat->Option Ent)(p:Id)(o:Oper)(x:Operand):Option Res:=match ev C fr x with
  | some y=>match zaxk y with
   | true=>match y with
    | .iface t z=>some ⟨.iface t z,[],true⟩
    | y=>some ⟨y,[],true⟩
   | false=>none
  | none=>none
def zaqg (C:Cx)(fr:Fr)(look:Nat->Option Ent)(p:Id)(o:Oper)(op:BinOp)(t:TypeId)(x:Operand)(y:Operand):Option Res:=match ev C fr x,ev C fr y with
  | some u,some v=>match u,v with
   | .lit a,.lit b=>okg (zaus op a b) (cmpP C.P C.B op t x y (.lit a) (.lit b))
   | u,v=>okd (cmpP C.P C.B op t x y u v)
  | _,_=>none
def zawV (C:Cx)(fr:Fr)(look:Nat->Option Ent)(p:Id)(o:Oper)(op:UnOp)(x:Operand):Option Res:=match ev C fr x with
  | some (.lit v)=>okl (zaoe (Op.unary op v))
  | _=>none
def zajq (C:Cx)(fr:Fr)(look:Nat->Option Ent)(p:Id)(o:Oper)(s:TypeId)(t:TypeId)(x:Operand):Option Res:=match ev C fr x with
  | some y=>match s2bE C.B s t y with
   | some (_,l)=>match C.own (o.dst.getD 0) with
    | true=>some ⟨.slc (C.lab p (o.dst.getD 0)) p 0 l.length,[(C.lab p (o.dst.getD 0),⟨p,.row true 1 (l.map zakI)⟩)],true⟩
    | false=>some ⟨.lst false 1 (l.map zakI),[],true⟩
   | none=>match y with
    | .lit v=>okg (zaiD C.B s t v) (zaBJ C.B s t look (.lit v))
    | y=>okd (zaBJ C.B s t look y)
  | none=>none
def zac9 (C:Cx)(fr:Fr)(look:Nat->Option Ent)(p:Id)(o:Oper)(t:TypeId)(x:Operand):Option Res:=match ti C.B t,ev C fr x with
  | some T,some y=>match T.desc with
   | .interface _=>none
   | _=>some ⟨.iface t y,[],true⟩
  | _,_=>none
def zahq (C:Cx)(fr:Fr)(look:Nat->Option Ent)(p:Id)(o:Oper)(f:Fn)(first:Array Operand)(cap:Array Operand):Option Res:=match evs C fr first.toList,evs C fr cap.toList with
  | some xs,some ys=>some ⟨.fn f xs ys,[],true⟩
  | _,_=>none
def zalO (C:Cx)(fr:Fr)(look:Nat->Option Ent)(p:Id)(o:Oper)(t:TypeId)(x:Operand)(lo:Option Operand)(hi:Option Operand)(mx:Option Operand):Option Res:=match ti C.B t,ev C fr x,evo C fr lo,evo C fr hi,evo C fr mx with
  | some T,some y,some l,some h,some m=>okd (zanU C.B T look y l h m)
  | _,_,_,_,_=>none
def zafS (C:Cx)(fr:Fr)(look:Nat->Option Ent)(p:Id)(o:Oper)(t:TypeId)(x:Operand)(f:Nat):Option Res:=match ti C.B t,ev C fr x with
  | some T,some y=>okd (zaf C.B T f y)
  | _,_=>none
def zaqe (C:Cx)(fr:Fr)(look:Nat->Option Ent)(p:Id)(o:Oper)(t:TypeId)(x:Operand)(f:Nat):Option Res:=match ti C.B t,ev C fr x with
  | some T,some y=>okd (zao0 C.B T f y)
  | _,_=>none
def zadW (C:Cx)(fr:Fr)(look:Nat->Option Ent)(p:Id)(o:Oper)(t:TypeId)(x:Operand)(i:Operand):Option Res:=match ti C.B t,ev C fr x,ev C fr i with
  | some T,some y,some (.lit (.int _ n))=>okd (zad3 C.B T look y n)
  | _,_,_=>none
def zalQ (C:Cx)(fr:Fr)(look:Nat->Option Ent)(p:Id)(o:Oper)(t:TypeId)(x:Operand)(i:Operand):Option Res:=match ti C.B t,ev C fr x,ev C fr i with
  | some T,some y,some (.lit (.int _ n))=>okd (zamg C.B T y n)
  | _,_,_=>none
def zaeY (C:Cx)(fr:Fr)(look:Nat->Option Ent)(p:Id)(o:Oper)(x:Operand)(t:TypeId)(c:Bool):Option Res:=match ti C.B t,ev C fr x with
  | some T,some y=>okd (zadR C.B t T y c)
  | _,_=>none
def zajp (C:Cx)(fr:Fr)(look:Nat->Option Ent)(p:Id)(o:Oper)(x:Operand)(i:Nat):Option Res:=match ev C fr x with
  | some (.tup xs)=>okd (xs[i]?)
  | some (.lit (.tuple vs))=>okd ((vs[i]?).map .lit)
  | _=>none
def zasx (C:Cx)(fr:Fr)(look:Nat->Option Ent)(p:Id)(o:Oper)(c:Call):Option Res:=match c.callee with
  | .builtin b=>match evs C fr c.args.toList with
   | some xs=>zagU C look p (C.lab p (o.dst.getD 0)) b c.argTypes xs
   | none=>none
  | _=>none
def opE (C:Cx)(fr:Fr)(look:Nat->Option Ent)(p:Id)(o:Oper):Option Res :=
 match o.op with
 | .move x | .assign x=>okd (ev C fr x)
 | .pick c a b=>zawW C fr look p o c a b
 | .alloc t=>zaqh C fr look p o t
 | .box t x=>zaEw C fr p o t x
 | .build t ps=>zaqf C fr look p o t ps
 | .buildSlice t n ps=>zaeZ C fr look p o t n ps
 | .load t x=>zasw C fr look p o t x
 | .store t x y=>zalN C fr look p o t x y
 | .lookup t x i c=>zaio C fr look p o t x i c
 | .insert t m k x=>zalP C fr look p o t m k x
 | .makeMap _ r=>zajn C fr look p o r
 | .nilCheck x=>zahp C fr look p o x
 | .binOp op t x y _=>zaqg C fr look p o op t x y
 | .unOp op _ x=>zawV C fr look p o op x
 | .convert s t x=>zajq C fr look p o s t x
 | .makeInterface t x=>zac9 C fr look p o t x
 | .makeFunc f first cap=>zahq C fr look p o f first cap
 | .slice t x lo hi mx=>zalO C fr look p o t x lo hi mx
 | .fieldAddr t x f=>zafS C fr look p o t x f
 | .field t x f=>zaqe C fr look p o t x f
 | .indexAddr t x i=>zadW C fr look p o t x i
 | .index t x i=>zalQ C fr look p o t x i
 | .typeAssert x _ t c=>zaeY C fr look p o x t c
 | .extract x i=>zajp C fr look p o x i
 | .call c=>zasx C fr look p o c
 | _=>none
def RetN (P:Program)(s:Sem Next)(E:Env)(τ:Hp)(w:World)(p:Id)(x:AV)(upd:Upd):Prop :=
 ∃ v w' E',(s.run P w = .ok (.value v) w'∨(s.run P w = .ok .skip w'/\v=undef))/\VR E' x v/\Holds E' (τ.app upd) w'/\Adv E τ w E' (τ.app upd) w'/\zac6 E E' p
theorem Ret.next {P:Program}{s:Sem Value}{E:Env}{τ:Hp}{w:World}{p:Id}{x:AV}{upd:Upd}(h:Ret P s E τ w p x upd):RetN P (do Pure.pure (Next.value (<-s))) E τ w p x upd:=by
 obtain ⟨v,w',E',h1,h2⟩:=h
 exact ⟨v,w',E',.inl (by simp only [Sem.run_bind,h1,Result.andThen_ok,Sem.run_pure]),h2⟩
theorem RetN.pure {P:Program}{s:Sem Next}{E:Env}{τ:Hp}{w:World}{p:Id}{x:AV}(hh:Holds E τ w){v:Value}(h:s.run P w = .ok (.value v) w)(hv:VR E x v):RetN P s E τ w p x [] :=
 ⟨v,w,E,.inl h,hv,hh,.refl _ _ _,.refl _ _⟩
theorem RetN.val {P:Program}{s:Sem Value}{E:Env}{τ:Hp}{w:World}{p:Id}{x:AV}(hh:Holds E τ w)(h:∃ v,s.run P w = .ok v w/\VR E x v):RetN P (do Pure.pure (Next.value (<-s))) E τ w p x []:=by
 obtain ⟨v,h1,h2⟩:=h
 exact (Ret.pure hh h1 h2).next
theorem zalS {o:Option Value}{r:Res}(h:okl o=some r):∃ z,o=some z/\r.x = .lit z/\r.upd=[]:=by simp only [okl] at *;grind
theorem zalT {o:Option (Value × Bool)}{e:Option AV}{r:Res}(h:okg o e=some r):r.upd=[]/\((∃ z,o=some (z,r.ok)/\r.x = .lit z)∨e=some r.x):=by simp only [okg,okd] at *;grind
theorem zaa7 {o:Option AV}{r:Res}(h:okd o=some r):o=some r.x/\r.upd=[]:=by simp only [okd] at *;grind
section
variable {C:Cx} [TbOk C.B C.P] {E:Env} {τ:Hp} {w:World} {look:Nat->Option Ent} {p:Id} {r:Res}
theorem zahU (hh:Holds E τ w) (hl:∀ l e,look l=some e->aget τ l=some e) (hp:Fresh E p) {d:Nat} {b:Builtin} {ts:Array TypeId} {xs:List AV} {vs:List Value} (hx:RR E .vs xs vs)
  (h:zagU C look p d b ts xs=some r) (hok:r.ok=true) (rt:TypeId) (cs:Array Bool):RetN C.P (builtin b ts rt cs vs.toArray) E τ w p r.x r.upd:=by
 unfold zagU at h
 split at h
 · split at h
   · rename_i t x hts
     obtain rfl:ts = #[t]:=Array.ext' (by simpa using hts)
     obtain ⟨v,vs',h1,h2,rfl⟩:=hx.vs_cons_inv
     obtain rfl:=h2.vs_nil_inv
     split at h
     · rename_i T hT
       split at h
       · rename_i n hn;cases h
         simp only [builtin]
         exact RetN.val hh ⟨_,zaoC hT hh h1 hn,.lit _⟩
       · cases h
     · cases h
   · cases h
 · split at h
   · rename_i t t2 x y hts
     obtain rfl:ts = #[t,t2]:=Array.ext' (by simpa using hts)
     obtain ⟨v,vs',h1,h2,rfl⟩:=hx.vs_cons_inv
     obtain ⟨u,us',h3,h4,rfl⟩:=h2.vs_cons_inv
     obtain rfl:=h4.vs_nil_inv
     split at h
     · rename_i T T2 hT hT2
       simp only [builtin]
       exact (zaiZ hT hT2 hh hl hp h1 h3 h hok).next
     · cases h
   · cases h
 · split at h
   · rename_i a c
     obtain ⟨v,vs',h1,h2,rfl⟩:=hx.vs_cons_inv
     obtain ⟨u,us',h3,h4,rfl⟩:=h2.vs_cons_inv
     obtain rfl:=h4.vs_nil_inv
     obtain rfl:=h1.lit_inv
     obtain rfl:=h3.lit_inv
     obtain ⟨z,h5,h6,h7⟩:=zalS h
     rw [h6,h7]
     exact RetN.val hh ⟨z,zac1 h5 w,.lit _⟩
   · cases h
 · cases h
end
end
end Go.AS
