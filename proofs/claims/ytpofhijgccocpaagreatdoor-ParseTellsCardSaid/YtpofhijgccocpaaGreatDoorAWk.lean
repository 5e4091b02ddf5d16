/- Less is known of a value. -/
import Derived.Test.YtpofhijgccocpaaGreatDoorASext
namespace Go.AS
noncomputable section
inductive Wk (x y:AV):Prop
 | mk (h:∀ E v,VR E x v->VR E y v/\x.fsz=y.fsz)
inductive Wks (xs ys:List AV):Prop
 | mk (h:∀ E vs,RR E .vs xs vs->RR E .vs ys vs)
variable {x y:AV} {E:Env} {xs ys:List AV} {sz:Nat}
theorem Wk.vr (h:Wk x y){v:Value}(k:VR E x v):VR E y v:=by cases h with|mk h=>exact (h E v k).1
theorem Wks.rr (h:Wks xs ys){vs:List Value}(k:RR E .vs xs vs):RR E .vs ys vs:=by cases h with|mk h=>exact h E vs k
theorem Wk.of (h:∀ E v,VR E x v->VR E y v):Wk x y:=⟨fun E v k=>⟨h E v k,by rw [<-k.size,<- (h E v k).size]⟩⟩
theorem Wk.refl (x:AV):Wk x x := .of fun _ _ h=>h
theorem Wk.of_eq (h:x=y):Wk x y:=h ▸ .refl x
theorem Wk.trans {z:AV}(h:Wk x y)(k:Wk y z):Wk x z := .of fun _ _ q=>k.vr (h.vr q)
theorem Wks.refl (xs:List AV):Wks xs xs:=⟨fun _ _ h=>h⟩
theorem Wks.nil:Wks [] [] := .refl _
theorem Wks.cons (h:Wk x y)(k:Wks xs ys):Wks (x::xs) (y::ys):=⟨fun _ _ q=>by
 obtain ⟨v,vs',h1,h2,rfl⟩:=q.vs_cons_inv
 exact .vcons (h.vr h1) (k.rr h2)⟩
theorem Wk.tup (h:Wks xs ys):Wk (.tup xs) (.tup ys) := .of fun _ _ q=>by
 obtain ⟨vs,rfl,h1⟩:=q.tup_inv;exact .tup (h.rr h1)
inductive Wkl:List AV->List AV->Prop
 | nil:Wkl [] []
 | cons {x y:AV} {xs ys:List AV} (h:Wk x y) (hs:Wkl xs ys):Wkl (x::xs) (y::ys)
theorem Wkl.cs (h:Wkl xs ys):∀ {cs:List Value},RR E .cs xs cs->RR E .cs ys cs:=by
 induction h with
 | nil=>intro cs k;exact k
 | cons h _ ih=>intro cs k;obtain ⟨v,cs',h1,h2,rfl⟩:=k.cs_cons_inv;exact .ccons (h.vr h1) (ih h2)
theorem Wkl.length (h:Wkl xs ys):xs.length=ys.length:=by induction h with|nil=>rfl|cons _ _ ih=>simp [ih]
theorem Wk.agg (h:Wkl xs ys):Wk (.agg xs) (.agg ys) := .of fun _ _ q=>by
 obtain ⟨cs,rfl,h1⟩:=q.agg_inv;exact .agg (h.cs h1)
theorem Wk.lst {ex:Bool}:Wk (.lst ex sz xs) (.lst false sz xs) := .of fun _ _ q=>by
 rcases zacL q with ⟨rfl,a,c,rfl,_⟩|⟨b,off,cp,c,t,fz,cs,rest,rfl,h1,h2,h3,h4,h5,_,h7⟩
 · exact .lstE sz a (fun h=>by cases h)
 · exact .lst h1 h2 h3 h4 rfl h5 (fun h=>by cases h) h7
theorem Wk.lsts {ex:Bool}(h:Wkl xs ys):Wk (.lst ex sz xs) (.lst ex sz ys) := .of fun E v q=>by
 have hsz:∀ {xs ys:List AV},Wkl xs ys->∀ {cs:List Value} {E:Env},RR E .cs xs cs->(∀ x∈xs,x.fsz=sz)->∀ y∈ys,y.fsz=sz:=by
  intro xs ys h
  induction h with
  | nil=>intro cs E _ _ y hy;cases hy
  | cons h _ ih =>
   intro cs E k hx y hy
   obtain ⟨v,cs',h1,h2,rfl⟩:=k.cs_cons_inv
   rcases List.mem_cons.1 hy with rfl|hy
   · rw [<- (h.vr h1).size,h1.size];exact hx _ (List.mem_cons_self ..)
   · exact ih h2 (fun x hx'=>hx x (List.mem_cons_of_mem _ hx')) y hy
 rcases zacL q with ⟨rfl,a,c,rfl,h0⟩|⟨b,off,cp,c,t,fz,cs,rest,rfl,h1,h2,h3,h4,h5,h6,h7⟩
 · cases h;exact .lstE sz a h0
 · refine .lst h1 (h.cs h2) h3 (hsz h h2 h4) h.length.symm h5 h6 h7
theorem Wk.nilS {a:Option Addr}{c:Nat}:Wk (.lit (.slice a 0 c)) (.lst false sz []) := .of fun _ _ q=>by
 have:=q.lit_inv;subst this;exact .lstE sz a (fun h=>by cases h)
end
end Go.AS
