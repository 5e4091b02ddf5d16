/- The law ParseRight answers true for every input: the row's statement and its card are proved. No condition beyond the row's own. -/
import Derived.Test.YtpofhijgccocpaaGreatDoorCards
import Derived.Test.YtpofhijgccocpaaGreatDoorTie
import Derived.Test.YtpofhijgccocpaaGreatDoorHd
namespace Go.Proofs.YtpofhijgccocpaaGreatDoor
open Go.AS
namespace ParseRight
noncomputable section
open Go.ChangeShapes Go.WideShapes Go.ChangeAt Go.RowKit
theorem met {W:World}(h:laidMetH Tryz.prog Rows.parseRightRow.laid W):laidMet Tryz.prog Rows.parseRightRow.laid W:=Eq.mp (by kernel_rfl) h
theorem m1:("strconv.ErrSyntax",dErr eSyn.data.toList)∈Rows.parseRightRow.laid := .tail _ (.tail _ (.tail _ (.tail _ (.head _))))
theorem m2:("strconv.ErrRange",dErr eRan.data.toList)∈Rows.parseRightRow.laid := .tail _ (.tail _ (.tail _ (.head _)))
theorem m3:("internal/strconv.uint64pow10",(Lib.tabData .u64 powL:DataW Unit))∈Rows.parseRightRow.laid := .tail _ (.tail _ (.head _))
theorem laid:Laid Tryz.prog:=⟨by kernel_rfl,by kernel_rfl,by kernel_rfl⟩
theorem own:ownKnob Tryz.prog.godebug=none:=by kernel_rfl
theorem zarA:Tryz.f3.resultTypes = #[4]:=by kernel_rfl
theorem parts:∀ t∈Tryz.f3.params.toList,t<Tryz.prog.types.size:=by decide +kernel
set_option maxRecDepth 100000 in
theorem contract (H:Type) (enc:TypeId × Value->H) (W:World) (base:Nat) (args:Array Value) (ds gs:List (DataW H)) (before:List MemPlace)
  (hok:∀ (j:Nat) t v,Tryz.f3.params[j]?=some t->args[j]?=some v->Value.okWide Tryz.prog W .any base t v)
  (hW:DataW.Whole enc Tryz.prog Tryz.f3.params.toList Rows.parseRightSpec.vars false W args.toList ds gs before) (hL:laidMetH Tryz.prog Rows.parseRightRow.laid W) :
  Calls Tryz.prog 3 args W fun e W'=>∃ v,e = .returned v/\Rows.parseRightSpec.post enc Tryz.prog Tryz.f3 false true false false W args v W':=by
 have hW0:=hW
 obtain ⟨p,q,hA,_⟩:=hW
 rw [Tryz.params3] at hA
 change DataW.TrodAll enc Tryz.prog W 0 (fun _=>true) true [22,3,3,3] args.toList ds p at hA
 obtain ⟨al⟩:=args
 obtain ⟨v0,vs0,d0,ds0,p0,q0,hargs0,rfl,rfl,hd0,hrest0⟩:=trodAll_cons hA
 obtain rfl:al=v0::vs0:=by simpa using hargs0
 obtain ⟨v1,vs1,d1,ds1,p1,q1,hargs1,rfl,rfl,hd1,hrest1⟩:=trodAll_cons hrest0
 obtain rfl:=hargs1
 obtain ⟨v2,vs2,d2,ds2,p2,q2,hargs2,rfl,rfl,hd2,hrest2⟩:=trodAll_cons hrest1
 obtain rfl:=hargs2
 obtain ⟨v3,vs3,d3,ds3,p3,q3,hargs3,rfl,rfl,hd3,hrest3⟩:=trodAll_cons hrest2
 obtain rfl:=hargs3
 obtain ⟨rfl,rfl,rfl⟩:=trodAll_nil hrest3
 obtain ⟨sa,sl,sc,rfl⟩:=okWide_slice zara (hok 0 22 _ (by rw [show Tryz.f3.params = #[22,3,3,3] by kernel_rfl]; rfl) rfl)
 obtain ⟨n1,hr1⟩:=hd0
 obtain ⟨xs,hxs,hb⟩:=zarD hr1
 obtain ⟨na,rfl⟩:=okWide_int (k := .i64) (show Tryz.prog.underlying 3=some (.int .i64) by kernel_rfl) (hok 1 3 _ (by rw [show Tryz.f3.params = #[22,3,3,3] by kernel_rfl]; rfl) rfl)
 obtain ⟨nh,rfl⟩:=okWide_int (k := .i64) (show Tryz.prog.underlying 3=some (.int .i64) by kernel_rfl) (hok 2 3 _ (by rw [show Tryz.f3.params = #[22,3,3,3] by kernel_rfl]; rfl) rfl)
 obtain ⟨nb,rfl⟩:=okWide_int (k := .i64) (show Tryz.prog.underlying 3=some (.int .i64) by kernel_rfl) (hok 3 3 _ (by rw [show Tryz.f3.params = #[22,3,3,3] by kernel_rfl]; rfl) rfl)
 refine (zawB (met hL) m1 m2 m3 hb na nh nb hxs).mono ?_
 rintro e W' ⟨rfl,h1,h2,h3,h4,h5⟩
 exact ⟨_,rfl,zapK laid hW0 zarA (show Tryz.prog.underlying 4=some .bool by kernel_rfl) parts rfl ⟨h1,h2,h3,h4,h5⟩ rfl⟩
def start (os:Os):World:=World.doorLaid Tryz.prog 100 os
theorem zamm (os:Os):laidMetH Tryz.prog Rows.parseRightRow.laid ((start os).forCall (fun _ _=>0) ⟨#[],#[.slice none 0 0, .int .i64 0, .int .i64 0, .int .i64 0],[]⟩).memory:=laidMetH_of_parts (laidMet_of_run' 8 (by kernel_rfl) (by kernel_rfl)) (by kernel_rfl)
theorem reads (os:Os){H:Type}(enc:TypeId × Value->H):DataW.whole enc Tryz.prog ((start os).forCall (fun _ _=>0) ⟨#[],#[.slice none 0 0, .int .i64 0, .int .i64 0, .int .i64 0],[]⟩).memory Tryz.f3.params.toList Rows.parseRightSpec.vars false (#[.slice none 0 0, .int .i64 0, .int .i64 0, .int .i64 0]:Array Value).toList 8=some ([.nil, .lit (.int .i64 0), .lit (.int .i64 0), .lit (.int .i64 0)],[],[]):=by kernel_rfl
set_option maxRecDepth 100000 in
theorem lifted (os:Os)(started:os.Started)(H:Type)(enc:TypeId × Value->H)(F:Stop.Interp) :
  ReturnsInHanded {} Tryz.checked os 3 .any ((OpenSpec.ofChange Rows.parseRightSpec).preRow enc Tryz.prog Tryz.f3 Rows.parseRightRow.domain false Rows.parseRightRow.laid) (((OpenSpec.ofChange Rows.parseRightSpec).at F).post enc Tryz.prog Tryz.f3 false true false false):=by
 refine returnsInHanded_of_row (C:=Tryz.checked) (s:=OpenSpec.ofChange Rows.parseRightSpec) own started (by kernel_rfl) Tryz.func3
  (witness_row_atRef (enc:=enc) (C:=Tryz.checked) false (start os) #[.slice none 0 0, .int .i64 0, .int .i64 0, .int .i64 0] rfl (by kernel_rfl) (by kernel_rfl) (by kernel_rfl)
   (OpenSpec.preRow_of_cond 8 (reads os enc) (by kernel_rfl) (fun k hk=>by cases hk) (by kernel_rfl) (zamm os))) ?_
 intro W base args ds gs before hok hW _ _ _ hL _ _
 exact contract H enc W base args ds gs before hok hW hL
theorem said:Rows.ParseRightSaid :=
 OpenClaim.holds_of_cond 3 Tryz.f3 rfl rfl rfl rfl rfl rfl rfl ⟨rfl,rfl,rfl,rfl,rfl⟩ rfl rfl rfl rfl rfl (by kernel_rfl) Tryz.func3 (by kernel_rfl)
  (of_decide_eq_true (by kernel_rfl)) (by unfold Func.isWrapper; first | (rw [if_pos (by decide +kernel)]; kernel_rfl) | (rw [if_neg (by decide +kernel)]; exact ⟨rfl,rfl⟩))
  (fun os started H enc _ F=>by rw [OpenClaim.pre_eq_preRow]; exact lifted os started H enc F)
theorem plain (f:FuncId)(fn:Func)(hf:Tryz.pinned.checked.prog.funcNamed "taproot/taprootlaw18.ParseRight" = some f)(hfn:Tryz.pinned.checked.prog.funcs[f]?=some fn) :
  true=Tryz.pinned.checked.prog.looks []/\∀ (j:Nat) t,fn.params[j]?=some t->Tryz.pinned.checked.prog.wantsStandIn t=false:=by
 obtain rfl:f=3:=Option.some.inj ((show Tryz.prog.funcNamed "taproot/taprootlaw18.ParseRight" = some 3 by kernel_rfl).symm.trans hf) |>.symm
 obtain rfl:fn=Tryz.f3:=(Option.some.inj (Tryz.func3.symm.trans hfn)).symm
 refine ⟨by kernel_rfl,fun j t ht => ?_⟩
 have hm:t∈Tryz.f3.params.toList:=by
  rw [Array.mem_toList_iff]; exact Array.mem_of_getElem? ht
 have all:∀ t∈Tryz.f3.params.toList,Tryz.pinned.checked.prog.wantsStandIn t=false:=by
  have h:Tryz.f3.params.toList.all (fun t=>!Tryz.prog.wantsStandIn t)=true:=by kernel_rfl
  intro t ht
  have:=List.all_eq_true.1 h t ht
  rw [Bool.not_eq_true'] at this
  exact this
 exact all t hm
theorem card:Rows.ParseRightCardSaid :=
 Claim7.holds_tied_plain_at .later [] _ _ _ _ said (fun _ h=>by cases h) (by kernel_rfl) (fun _ h=>by cases h) parseRight_row_tie rfl ⟨rfl,rfl⟩ (by kernel_rfl) rfl plain (by kernel_rfl)
end
end ParseRight
end Go.Proofs.YtpofhijgccocpaaGreatDoor
