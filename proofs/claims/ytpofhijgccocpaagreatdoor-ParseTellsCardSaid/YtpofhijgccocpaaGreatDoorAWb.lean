/- The walk that is told how tests come out and what calls and loops answer. -/
import Derived.Test.YtpofhijgccocpaaGreatDoorAWf
namespace Go.AS
noncomputable section
structure Lp where
 ins:List Nat
 gh:List (Nat × Nat)
 outs:Ex->List Nat
 con:List AV->Hp->List (Alt (Ex × Back))
structure WX where
 px:PX
 con:FuncId->Option Con
 sy:FuncId->Nat->Bool
 lp:FuncId->Nat->Option Lp
 m:Nat
abbrev KV:=Orc->AV->Nat->Hp->List Nat->Prop
abbrev KC:=Orc->Ex->Nat->Fr->Hp->List Nat->Prop
abbrev zauI:=FuncId->Orc->List AV->Nat->Hp->List Nat->KV->Prop
def cxV (X:WX)(d:Nat)(f:FuncId):Cx :=
 { P:=X.px.P,B:=tiOf X.px.P,gl:=X.px.gl,ct:=fun g=>match X.con g with
   | some con=>some (genC con)
   | none=>some (.det fun p _ xs σ=>canF (S X.px d g) p xs σ),own:=X.px.own f,lab:=fun p _=>enc p }
def tst (sy:Bool)(b:Bool)(os:Orc)(K:Orc->Bool->Prop):Prop :=
 match sy with
 | false=>match b with
  | true=>K os true
  | false=>K os false
 | true=>match os with
  | .t o=>b=true/\K o true
  | .f o=>b=false/\K o false
  | .s x y=>(b=true->K x true)/\(b=false->K y false)
  | _=>NeedOrc b
def zawU:Op->Bool
 | .binOp op .. => match op with
  | .eql | .neq | .lss | .leq | .gtr | .geq=>false
  | _=>true
 | .convert .. => true
 | .call k=>match k.callee with
  | .builtin b=>match b with
   | .append=>true
   | _=>false
  | _=>false
 | _=>false
def okV (sy:Bool)(b:Bool)(K:Prop):Prop :=
 match sy with
 | false=>match b with
  | true=>K
  | false=>False
 | true=>b=true/\K
def slots (fr:Fr):List Nat->Option (List AV)
 | []=>some []
 | t::r=>match aget fr t,slots fr r with
  | some x,some xs=>some (x::xs)
  | _,_=>none
def mkSl:List Nat->List AV->Fr
 | t::r,x::xs=>aset (mkSl r xs) t x
 | _,_ => .nil
def zapQ:List Nat->List AV->Bool
 | [],[]=>true
 | _::r,_::xs=>zapQ r xs
 | _,_=>false
def zaxD:AV->Bool
 | .lit (.slice _ 0 0)=>true
 | .lst true _ []=>true
 | _=>false
def ghosts:List (Nat × Nat)->Nat->Fr->Hp->List Nat->Nat × Fr × Hp × List Nat
 | [],c,fr,σ,ws=>(c,fr,σ,ws)
 | (t,sz)::r,c,fr,σ,ws=>match aget fr t with
  | some x=>match zaxD x with
   | true=>ghosts r (c+1) (aset fr t (.slc (enc [c]) [c] 0 0)) (aset σ (enc [c]) ⟨[c],.row true sz []⟩) (enc [c]::ws)
   | false=>ghosts r c fr σ ws
  | none=>ghosts r c fr σ ws
def symO (X:WX)(f:FuncId):Operand->Bool
 | .tmp t=>X.sy f t
 | _=>false
def zaBs (X:WX)(f:FuncId)(o:Operand)(fr:Fr)(t:Bool):Fr:=match o with
 | .tmp d=>match X.sy f d with
  | true=>aset fr d (.lit (.bool t))
  | false=>fr
 | _=>fr
def frzK (ops:Array Oper):Nat:=match ops.toList with
 | o::_=>o.dst.getD 0+5000000
 | []=>0
section
variable (X:WX) (C:Cx) (n:Nat) (f:FuncId) (call:zauI)
def zaGr (want t:Bool):Bool:=match want with
 | true=>t
 | false=>!t
def setT (sy:Bool)(d:Nat)(t:Bool)(fr:Fr):Fr:=match sy with
 | true=>aset fr d (.lit (.bool t))
 | false=>fr
def zaoG (all:List Oper)(os:Orc)(look fr:Fr)(g:Option (Nat × Bool))(K:Orc->Bool->Fr->Prop):Prop :=
 match g with
 | none=>K os true fr
 | some (j,want)=>match zaui all j with
  | some d=>match aget look d with
   | some (.lit v)=>match v with
    | .bool b=>tst (X.sy f d) b os fun os t=>K os (zaGr want t) (setT (X.sy f d) d t fr)
    | .tuple _=>K os false fr
    | _=>False
   | _=>False
  | none=>False
def opV (os:Orc)(fr:Fr)(c:Nat)(σ:Hp)(ws:List Nat)(o:Oper)(K:KV):Prop :=
 opS (X.sy f (zaDN o)) C fr (aget σ) [c] o fun b q=>okV (b||zawU o.op) q.ok (K os q.x (c+1) (σ.app q.upd) (addL q.upd ws))
def zavk (fr:Fr)(k:Call):Option (FuncId × List AV) :=
 match k.callee with
 | .value fo=>match ev C fr fo,evs C fr k.args.toList with
  | some fv,some xs=>match zakm fv with
   | some (g,a,b)=>some (g,a++xs++b)
   | none=>none
  | _,_=>none
 | .invoke r m=>match ev C fr r,evs C fr k.args.toList with
  | some rv,some xs=>match zagE rv with
   | some (.dyn t x)=>match zafU C.B t x m with
    | some (g,y)=>some (g,y::xs)
    | none=>none
   | _=>none
  | _,_=>none
 | .builtin _=>none
def isBi (k:Call):Bool:=match k.callee with
 | .builtin _=>true
 | _=>false
def zaC (os:Orc)(fr:Fr)(c:Nat)(σ:Hp)(ws:List Nat)(o:Oper)(K:KV):Prop :=
 match o.op with
 | .call k=>match isBi k with
  | true=>opV X C f os fr c σ ws o K
  | false=>match zavk C fr k with
   | some (g,xs)=>call g os xs c σ ws K
   | none=>Fail o.pos (o.dst.getD 0)
 | _=>opV X C f os fr c σ ws o K
def opsV (all:List Oper):List Oper->Orc->Nat->Fr->Hp->List Nat->(Orc->Nat->Fr->Hp->List Nat->Prop)->Prop
 | [],os,c,fr,σ,ws,K=>K os c fr σ ws
 | o::r,os,c,fr,σ,ws,K=>zaoG X f all os fr fr o.guard fun os b fr=>match b with
  | true=>zaC X C f call os fr c σ ws o fun os x c σ ws=>opsV all r os c (putF n fr o.dst x) σ ws K
  | false=>opsV all r os c (putF n fr o.dst (.lit undef)) σ ws K
def zaCl (os:Orc)(p:Id)(fr:Fr)(τ:Hp)(o:Oper)(K:Orc->Res->Prop):Prop :=
 match (match o.op with
  | .call k=>match zavk C fr k with
   | some (g,xs)=>match X.con g with
    | some con=>some (con,xs)
    | none=>none
   | none=>none
  | _=>none) with
 | some (con,xs)=>askG con os p xs τ K
 | none=>match (match X.sy f (zaDN o) with|true=>symR C fr (aget τ) o|false=>none) with
  | some q=>okV true q.ok (K os q)
  | none=>match (match X.sy f (o.dst.getD 0+1000000) with|true=>symA C fr (aget τ) p o|false=>none) with
   | some q=>okV true q.ok (K os q)
   | none=>match detO C p fr τ o with
    | some q=>okV (zawU o.op) q.ok (K os q)
    | none=>Fail o.pos (o.dst.getD 0)
def opsD (all:List Oper)(c:Nat):List Oper->Orc->Nat->Fr->Hp->List Nat->List PE->(Orc->List PE->Fr->Hp->List Nat->Prop)->Prop
 | [],os,_,fr,σ,ws,log,K=>K os log fr σ ws
 | o::r,os,k,fr,σ,ws,log,K=>zaoG X f all os (restr (zadc all o) fr) fr o.guard fun os b fr=>match b with
  | true=>zaCl X C f os [k,c] (restr (zadc all o) fr) (restr (fpR C fr σ o) σ) o fun os q =>
    opsD all c r os (k+1) (putF n fr o.dst q.x) (σ.app q.upd) (addL q.upd ws) (log++[⟨true,q.x,q.upd,fpR C fr σ o⟩]) K
  | false=>opsD all c r os (k+1) (putF n fr o.dst (.lit undef)) σ ws (log++[⟨false,.lit undef,[],[]⟩]) K
def zaBz (g:Orc->Nat->Fr->Hp->List Nat->KC->Prop):Nat->Orc->Nat->Fr->Hp->List Nat->KC->Prop
 | 0,_,_,_,_,_,_=>False
 | m+1,os,c,fr,σ,ws,K=>g os c fr σ ws fun os ex c fr σ ws=>match ex with
  | .normal=>zaBz g m os c fr σ ws K
  | ex=>K os ex c fr σ ws
def lpV (L:Lp)(os:Orc)(c:Nat)(fr:Fr)(σ:Hp)(ws:List Nat)(K:KC):Prop :=
 match ghosts L.gh c fr σ ws with
 | (c,fr,σ,ws)=>match slots fr L.ins with
  | some xs=>match zaqW xs σ with
   | some (M,σc,ys)=>askA (L.con ys σc) os fun os r=>match retF [] [c] M r.2.x r.2.σ r.2.ws with
    | some q=>match q.x with
     | .tup zs=>match zapQ (L.outs r.1) zs with
      | true=>K os r.1 (c+1) (mkSl (L.outs r.1) zs) (σ.app q.upd) (addL q.upd ws)
      | false=>False
     | _=>False
    | none=>False
   | none=>False
  | none=>False
def runV (cur:Option Nat):Code->Orc->Nat->Fr->Hp->List Nat->KC->Prop
 | .skip,os,c,fr,σ,ws,K=>K os .normal c fr σ ws
 | .region _ ops d,os,c,fr,σ,ws,K=>match d with
  | false=>opsV X C n f call ops.toList ops.toList os c fr σ ws fun os c fr σ ws=>K os .normal c fr σ ws
  | true=>opsD X C n f ops.toList c ops.toList os 0 fr σ ws [] fun os log fr σ1 ws=>match zalH n ops.toList log with
   | true=>match X.sy f (frzK ops) with
    | true=>frzW σ ws ws 8 (.lit (.bool true)) σ1 fun _ σ2=>K os .normal (c+1) fr σ2 ws
    | false=>K os .normal (c+1) fr σ1 ws
   | false=>Fail "plan" 0
 | .seq x y,os,c,fr,σ,ws,K=>runV none x os c fr σ ws fun os ex c fr σ ws=>match ex with
  | .normal=>runV none y os c fr σ ws K
  | ex=>K os ex c fr σ ws
 | .cond o x y,os,c,fr,σ,ws,K=>match ev C fr o with
  | some (.lit (.bool b))=>tst (symO X f o) b os fun os t=>match t with
   | true=>runV none x os c (zaBs X f o fr true) σ ws K
   | false=>runV none y os c (zaBs X f o fr false) σ ws K
  | _=>False
 | .block i x,os,c,fr,σ,ws,K=>runV (some i) x os c fr σ ws fun os ex c fr σ ws=>match ex with
  | .exit j=>match Nat.beq j i with
   | true=>K os .normal c fr σ ws
   | false=>K os (.exit j) c fr σ ws
  | ex=>K os ex c fr σ ws
 | .loop x,os,c,fr,σ,ws,K=>match (match cur with|some i=>X.lp f i|none=>none) with
  | some L=>lpV L os c fr σ ws K
  | none=>zaBz (runV none x) X.m os c fr σ ws K
 | .exit i,os,c,fr,σ,ws,K=>K os (.exit i) c fr σ ws
 | .ret,os,c,fr,σ,ws,K=>K os .ret c fr σ ws
 | _,_,_,_,_,_,_=>False
end
def bodyV (X:WX)(d:Nat)(f:FuncId)(call:zauI)(fn:Func)(code:Code)(os:Orc)(xs:List AV)(c:Nat)(σ:Hp)(ws:List Nat)(K:KV):Prop :=
 match Nat.ble xs.length fn.ntmps with
 | true=>runV X (cxV X d f) fn.ntmps f call none code os c (mkFr 0 xs) σ ws fun os ex c fr σ ws=>match ex with
  | .exit _=>False
  | _=>match resE (cxV X d f) fn fr σ with
   | some x=>K os x c σ ws
   | none=>False
 | false=>False
def callV (X:WX):Nat->zauI
 | 0,_,_,_,_,_,_,_=>False
 | d+1,g,os,xs,c,σ,ws,K=>match X.con g with
  | some con=>askG con os [c] xs σ fun os q=>K os q.x (c+1) (σ.app q.upd) (addL q.upd ws)
  | none=>match X.px.ext g with
   | some e=>match e [c] 0 xs σ with
    | some q=>match q.ok with
     | true=>K os q.x (c+1) (σ.app q.upd) (addL q.upd ws)
     | false=>False
    | none=>Fail "ext" g
   | none=>match X.px.P.funcs[g]? with
    | some fn=>match fn.body with
     | some code=>match fn.name == "runtime.NumGoroutine" with
      | true=>False
      | false=>bodyV X d g (callV X d) fn code os xs c σ ws K
     | none=>False
    | none=>False
end
end Go.AS
