/- The law ParseTells answers true for every input: the row's statement and its card are proved. No condition beyond the row's own. -/
import Derived.Test.YtpofhijgccocpaaGreatDoorCards
import Derived.Test.YtpofhijgccocpaaGreatDoorTie
import Derived.Test.YtpofhijgccocpaaGreatDoorId
set_option maxRecDepth 100000
namespace Go.Proofs.YtpofhijgccocpaaGreatDoor
open Go.AS
namespace ParseTells
noncomputable section
open Go.ChangeShapes Go.WideShapes Go.ChangeAt Go.RowKit
theorem here {W:World}(h:laidMetH Tryz.prog Rows.parseTellsRow.laid W):∃ t fz,W.heap[0]?=some (.cells #[.iface 167 (.agg #[.pointer (some ⟨7,47,none⟩)])] t fz) :=
 handle_here (x:=("errors.errorType",Rows.laid_errors_errorType)) (r:=[]) (nm:=[101,114,114,111,114]) (g:=0) (u:=167) (ty:=47) h rfl rfl rfl (by kernel_rfl) (by kernel_rfl) (by kernel_rfl) (by kernel_rfl)
abbrev lf:List (String × DataW Unit):=[("math/bits.deBruijn32tab",Rows.laid_math_bits_deBruijn32tab),("math/bits.deBruijn64tab",Rows.laid_math_bits_deBruijn64tab),("internal/strconv.uint64pow10",Rows.laid_internal_strconv_uint64pow10),("strconv.ErrRange",Rows.laid_strconv_ErrRange),("strconv.ErrSyntax",Rows.laid_strconv_ErrSyntax)]
theorem met {W:World}(h:laidMetH Tryz.prog Rows.parseTellsRow.laid W):laidMet Tryz.prog lf W :=
 (Eq.mp (show laidMetH Tryz.prog Rows.parseTellsRow.laid W=(laidMet Tryz.prog lf W/\handlesMet Tryz.prog [("errors.errorType",Rows.laid_errors_errorType)] W) by kernel_rfl) h).1
theorem m1:("strconv.ErrSyntax",dErr eSyn.data.toList)∈lf := .tail _ (.tail _ (.tail _ (.tail _ (.head _))))
theorem m2:("strconv.ErrRange",dErr eRan.data.toList)∈lf := .tail _ (.tail _ (.tail _ (.head _)))
theorem m3:("internal/strconv.uint64pow10",(Lib.tabData .u64 powL:DataW Unit))∈lf := .tail _ (.tail _ (.head _))
theorem laid:Laid Tryz.prog:=⟨by kernel_rfl,by kernel_rfl,by kernel_rfl⟩
theorem own:ownKnob Tryz.prog.godebug=none:=by kernel_rfl
theorem zavK:Tryz.f8.resultTypes = #[4]:=by kernel_rfl
theorem parts:∀ t∈Tryz.f8.params.toList,t<Tryz.prog.types.size:=by decide +kernel
theorem contract (H:Type) (enc:TypeId × Value->H) (W:World) (base:Nat) (args:Array Value) (ds gs:List (DataW H)) (before:List MemPlace)
  (hok:∀ (j:Nat) t v,Tryz.f8.params[j]?=some t->args[j]?=some v->Value.okWide Tryz.prog W .any base t v)
  (hW:DataW.Whole enc Tryz.prog Tryz.f8.params.toList Rows.parseTellsSpec.vars false W args.toList ds gs before) (hL:laidMetH Tryz.prog Rows.parseTellsRow.laid W) :
  Calls Tryz.prog 8 args W fun e W'=>∃ v,e = .returned v/\Rows.parseTellsSpec.post enc Tryz.prog Tryz.f8 false true false false W args v W':=by
 have hW0:=hW
 obtain ⟨p,q,hA,_⟩:=hW
 rw [Tryz.params8] at hA
 change DataW.TrodAll enc Tryz.prog W 0 (fun _=>true) true [22,9,4,22] args.toList ds p at hA
 obtain ⟨al⟩:=args
 obtain ⟨v0,vs0,d0,ds0,p0,q0,hargs0,rfl,rfl,hd0,hrest0⟩:=trodAll_cons hA
 obtain rfl:al=v0::vs0:=by simpa using hargs0
 obtain ⟨v1,vs1,d1,ds1,p1,q1,hargs1,rfl,rfl,hd1,hrest1⟩:=trodAll_cons hrest0
 obtain rfl:=hargs1
 obtain ⟨v2,vs2,d2,ds2,p2,q2,hargs2,rfl,rfl,hd2,hrest2⟩:=trodAll_cons hrest1
 obtain rfl:=hargs2
 obtain ⟨v3,vs3,d3,ds3,p3,q3,hargs3,rfl,rfl,hd3,hrest3⟩:=trodAll_cons hrest2
 obtain rfl:=hargs3
 obtain ⟨rfl,rfl,rfl⟩:=trodAll_nil hrest3
 obtain ⟨sa,sl,sc,rfl⟩:=okWide_slice zarn (hok 0 22 _ (by rw [show Tryz.f8.params = #[22,9,4,22] by kernel_rfl];rfl) rfl)
 obtain ⟨n1,hr1⟩:=hd0
 obtain ⟨xs,hxs,hb⟩:=zapU hr1
 obtain ⟨raw,rfl⟩:=okWide_string (show Tryz.prog.underlying 9=some .string by kernel_rfl) (hok 1 9 _ (by rw [show Tryz.f8.params = #[22,9,4,22] by kernel_rfl];rfl) rfl)
 obtain ⟨any,rfl⟩:=okWide_bool (show Tryz.prog.underlying 4=some .bool by kernel_rfl) (hok 2 4 _ (by rw [show Tryz.f8.params = #[22,9,4,22] by kernel_rfl];rfl) rfl)
 obtain ⟨ta,tl,tc,rfl⟩:=okWide_slice zarn (hok 3 22 _ (by rw [show Tryz.f8.params = #[22,9,4,22] by kernel_rfl];rfl) rfl)
 obtain ⟨n2,hr2⟩:=hd3
 obtain ⟨ys,hys,hc⟩:=zapU hr2
 obtain ⟨th,fzh,hh⟩:=here hL
 refine (zaB3 (met hL) m1 m2 m3 hh hb hc raw any hxs hys).mono ?_
 rintro e W' ⟨rfl,h1,h2,h3,h4,h5⟩
 exact ⟨_,rfl,zasJ laid hW0 zavK (show Tryz.prog.underlying 4=some .bool by kernel_rfl) parts rfl ⟨h1,h2,h3,h4,h5⟩ rfl⟩
def start (os:Os):World:=World.doorLaid Tryz.prog 100 os
theorem zanR (os:Os):laidMetH Tryz.prog Rows.parseTellsRow.laid ((start os).forCall (fun _ _=>0) ⟨#[],#[.slice none 0 0,.string ⟨#[]⟩,.bool false,.slice none 0 0],[]⟩).memory:=laidMetH_of_parts (laidMet_of_run' 8 (by kernel_rfl) (by kernel_rfl)) (by kernel_rfl)
theorem reads (os:Os){H:Type}(enc:TypeId × Value->H):DataW.whole enc Tryz.prog ((start os).forCall (fun _ _=>0) ⟨#[],#[.slice none 0 0,.string ⟨#[]⟩,.bool false,.slice none 0 0],[]⟩).memory Tryz.f8.params.toList Rows.parseTellsSpec.vars false (#[.slice none 0 0,.string ⟨#[]⟩,.bool false,.slice none 0 0]:Array Value).toList 8=some ([.nil,.lit (.string []),.lit (.bool false),.nil],[],[]):=by kernel_rfl
theorem lifted (os:Os)(started:os.Started)(H:Type)(enc:TypeId × Value->H)(F:Stop.Interp) :
  ReturnsInHanded {} Tryz.checked os 8 .any ((OpenSpec.ofChange Rows.parseTellsSpec).preRow enc Tryz.prog Tryz.f8 Rows.parseTellsRow.domain false Rows.parseTellsRow.laid) (((OpenSpec.ofChange Rows.parseTellsSpec).at F).post enc Tryz.prog Tryz.f8 false true false false):=by
 refine returnsInHanded_of_row (C:=Tryz.checked) (s:=OpenSpec.ofChange Rows.parseTellsSpec) own started (by kernel_rfl) Tryz.func8
  (witness_row_atRef (enc:=enc) (C:=Tryz.checked) false (start os) #[.slice none 0 0,.string ⟨#[]⟩,.bool false,.slice none 0 0] rfl (by kernel_rfl) (by kernel_rfl) (by kernel_rfl)
   (OpenSpec.preRow_of_cond 8 (reads os enc) (by kernel_rfl) (fun k hk=>by cases hk) (by kernel_rfl) (zanR os))) ?_
 intro W base args ds gs before hok hW _ _ _ hL _ _
 exact contract H enc W base args ds gs before hok hW hL
theorem said:Rows.ParseTellsSaid :=
 OpenClaim.holds_of_cond 8 Tryz.f8 rfl rfl rfl rfl rfl rfl rfl ⟨rfl,rfl,rfl,rfl,rfl⟩ rfl rfl rfl rfl rfl (by kernel_rfl) Tryz.func8 (by kernel_rfl)
  (of_decide_eq_true (by kernel_rfl)) (by unfold Func.isWrapper;first|(rw [if_pos (by decide +kernel)];kernel_rfl)|(rw [if_neg (by decide +kernel)];exact ⟨rfl,rfl⟩))
  (fun os started H enc _ F=>by rw [OpenClaim.pre_eq_preRow];exact lifted os started H enc F)
theorem plain (f:FuncId)(fn:Func)(hf:Tryz.pinned.checked.prog.funcNamed "taproot/taprootlaw18.ParseTells" = some f)(hfn:Tryz.pinned.checked.prog.funcs[f]?=some fn) :
  true=Tryz.pinned.checked.prog.looks []/\∀ (j:Nat) t,fn.params[j]?=some t->Tryz.pinned.checked.prog.wantsStandIn t=false:=by
 obtain rfl:f=8:=Option.some.inj ((show Tryz.prog.funcNamed "taproot/taprootlaw18.ParseTells" = some 8 by kernel_rfl).symm.trans hf) |>.symm
 obtain rfl:fn=Tryz.f8:=(Option.some.inj (Tryz.func8.symm.trans hfn)).symm
 refine ⟨by kernel_rfl,fun j t ht => ?_⟩
 have hm:t∈Tryz.f8.params.toList:=by
  rw [Array.mem_toList_iff];exact Array.mem_of_getElem? ht
 have all:∀ t∈Tryz.f8.params.toList,Tryz.pinned.checked.prog.wantsStandIn t=false:=by
  have h:Tryz.f8.params.toList.all (fun t=>!Tryz.prog.wantsStandIn t)=true:=by kernel_rfl
  intro t ht
  have:=List.all_eq_true.1 h t ht
  rw [Bool.not_eq_true'] at this
  exact this
 exact all t hm
theorem card:Rows.ParseTellsCardSaid :=
 Claim7.holds_tied_plain_at .later [] _ _ _ _ said (fun _ h=>by cases h) (by kernel_rfl) (fun _ h=>by cases h) parseTells_row_tie rfl ⟨rfl,rfl⟩ (by kernel_rfl) rfl plain (by kernel_rfl)
end
end ParseTells
end Go.Proofs.YtpofhijgccocpaaGreatDoor
