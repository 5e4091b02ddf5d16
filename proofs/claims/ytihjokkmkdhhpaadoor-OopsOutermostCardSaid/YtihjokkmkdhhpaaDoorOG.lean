/- A part of the proof of OopsOutermostCardSaid. -/
import Derived.Test.YtihjokkmkdhhpaaDoorOB
namespace Go.Proofs.YtihjokkmkdhhpaaDoor
open Go.AS
noncomputable section
def XB : WX := WX.base X0
theorem XB_ok : XB.Sound := .base sound0
/-- Pick. -/
def spPick : Sp := .pure (Int × Int) (fun i => 0 < i.2 ∧ i.2 ≤ 1000000) (fun i => [.lit (.int .i64 i.1), .lit (.int .i64 i.2)]) (fun i => .lit (.int .i64 (i.1 % i.2)))
def g7 (os : Orc) (n m : Int) : Prop := runF (XB.ask [7]) 5 7 (fn 7) (code 7) os 0 [] [.lit (.int .i64 n), .lit (.int .i64 m)] .nil ⟨.lit (.int .i64 (n % m)), .nil, []⟩
def X1 : WX := XB.add 7 (Sp.con [spPick])
/-- Hash. -/
def hb0 (p : Int) : Int := [171, 171, 160, 18, 254, 171].getD (p % 6).toNat 0
def hashV (p : Int) : Array Value := (([hb0 p, p / 6 * 16 % 256, p * 7 % 256] ++ List.replicate 28 0 ++ [p]).map (Value.int .u8)).toArray
def spHash : Sp := .pure Int (fun _ => True) (fun n => [.lit (.int .i64 n)]) (fun n => .lit (.agg (hashV (n % 60))))
def g11 (os : Orc) (n : Int) : Prop := runF (X1.ask [11]) 5 11 (fn 11) (code 11) os 0 [] [.lit (.int .i64 n)] .nil ⟨.lit (.agg (hashV (n % 60))), .nil, []⟩
def X2 : WX := X1.add 11 (Sp.con [spHash])
def g3 (os : Orc) (kind at_ n : Int) (name : ByteArray) : Prop := lawW (X2.ask [3]) 12 3 (fn 3) (code 3) os [.lit (.int .i64 kind), .lit (.string name), .lit (.int .i64 at_), .lit (.int .i64 n)]
/-- The second law. -/
def g4 (os : Orc) (a b x y kind : Int) (name : ByteArray) : Prop := lawW (X2.ask [4]) 12 4 (fn 4) (code 4) os [.lit (.int .i64 a), .lit (.int .i64 b), .lit (.int .i64 x), .lit (.int .i64 y), .lit (.int .i64 kind), .lit (.string name)]
end
end Go.Proofs.YtihjokkmkdhhpaaDoor
