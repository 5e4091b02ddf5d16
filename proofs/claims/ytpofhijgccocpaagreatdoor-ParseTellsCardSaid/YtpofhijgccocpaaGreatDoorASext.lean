/- Functions without a body. -/
import Derived.Test.YtpofhijgccocpaaGreatDoorASz
import Derived.Laws.Externs
namespace Go.AS
noncomputable section
def zaBq:List AV->Option (List Value)
 | []=>some []
 | x::xs=>match x.val?,zaBq xs with
  | some v,some vs=>some (v::vs)
  | _,_=>none
theorem zafH {E:Env}:∀ {xs:List AV} {us vs:List Value},RR E .vs xs us->zaBq xs=some vs->us=vs
 | [],us,vs,h,h2=>by cases h2;exact h.vs_nil_inv
 | x::xs,us,vs,h,h2=>by
  obtain ⟨v,us',h3,h4,rfl⟩:=h.vs_cons_inv
  unfold zaBq at h2
  split at h2
  · rename_i v' vs' h5 h6;cases h2
    rw [zadq h3 h5,zafH h4 h6]
  · cases h2
def pureX (P:Program)(e:Array Value->Sem Value):Id->Nat->List AV->Hp->Option Res:=fun _ _ xs _=>match zaBq xs with
 | some vs=>match zaeg P (e vs.toArray) with
  | some v=>some ⟨.lit v,[],true⟩
  | none=>none
 | none=>none
structure IsExt (P:Program) (f:FuncId) (fn:Func) (e:Array Value->Sem Value):Prop where
 at_:P.funcs[f]?=some fn
 name:(fn.name == "runtime.NumGoroutine")=false
 body:fn.body.isNone=true
 next:(Extern.findNext fn).isNone=true
 is:Extern.find fn=some e
theorem IsExt.run {P:Program}{f:FuncId}{fn:Func}{e:Array Value->Sem Value}(h:IsExt P f fn e)(args:Array Value)(w:World):(callFunc f args).run P w=((e args).run P w).andThen fun v w' => .ok (.value v) w' :=
 run_callFunc_extern h.at_ h.name h.body (by simpa using h.next) h.is args w
theorem zacq {C:Cx}{f:FuncId}{fn:Func}{e:Array Value->Sem Value}(h:IsExt C.P f fn e):CtOk C f (.det (pureX C.P e)):=by
 intro p d xs σ K hk E w vals hg hh hp hv
 simp only [Ct.asks] at hk
 split at hk
 · rename_i r hr
   unfold pureX at hr
   split at hr
   · rename_i vs hvs
     split at hr
     · rename_i v hrun;cases hr
       have:=zafH hv hvs;subst this
       refine .inr ⟨v,w,?_,E,.lit v,[],hk.2,.lit v,hh,.refl _ _ _,.refl _ _⟩
       rw [h.run,zaak hrun w];rfl
     · cases hr
   · cases hr
 · exact hk.elim
def zaC4 (r:zah3):Option AV:=match r with
 | some (x,_,_,_)=>some x
 | none=>none
end
end Go.AS
