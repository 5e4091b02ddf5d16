/- Facts on numbers that walks ask for. -/
import Derived.Test.YtpofhijgccocpaaGreatDoorAWh
namespace Go.AS
theorem zaag {n:Int}(h1 : -9223372036854775808<=n)(h2:n<9223372036854775808):inR .i64 n=true:=by
 have e1:(-(2 ^ (IntKind.i64.bits-1):Int)) = -9223372036854775808:=by decide
 have e2:(2 ^ (IntKind.i64.bits-1):Int)=9223372036854775808:=by decide
 have g1 : -(2 ^ (IntKind.i64.bits-1):Int)<=n:=e1 ▸ h1
 have g2:n<(2 ^ (IntKind.i64.bits-1):Int):=e2 ▸ h2
 show (decide (-(2 ^ (IntKind.i64.bits-1):Int)<=n)&&decide (n<(2 ^ (IntKind.i64.bits-1):Int)))=true
 rw [decide_eq_true g1,decide_eq_true g2];rfl
theorem zanH {n m:Int}(hm:0<m):(n.tmod m<0->n.tmod m+m=n % m)/\(¬n.tmod m<0->n.tmod m=n % m):=by
 have h1:=Int.emod_nonneg n (by omega:m≠0)
 have h2:=Int.emod_lt_of_pos n hm
 have h3:n.tmod m=n % m∨n.tmod m=n % m-m:=by
  rw [Int.tmod_eq_emod]
  split
  · left;omega
  · right;have:(m.natAbs:Int)=m:=by omega
    omega
 constructor
 · intro h;rcases h3 with h3|h3<;>omega
 · intro h;rcases h3 with h3|h3<;>omega
theorem zai4 (n:Int):IntKind.wrap .u8 n=n % 256:=by
 simp [IntKind.wrap,IntKind.signed,IntKind.bits]
theorem zaAk {P:Program}{f:FuncId}(h:(P.funcs[f]?).isSome=true):P.funcs[f]?=some ((P.funcs[f]?).getD default):=by grind
theorem Sp.one {P:Program}{gl:Nat->Option AV}{f:FuncId}{s:Sp}(h:∀ i,s.pre i->FOk P gl f (s.args i) (s.heap i) (s.out i)):zagZ P gl f (Sp.con [s]):=Sp.ok fun s' hs i hp=>by
 have hs:=List.mem_singleton.1 hs
 subst hs;exact h i hp
end Go.AS
