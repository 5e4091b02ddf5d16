/- A part of the proof of OopsOutermostCardSaid. -/
import Derived.Test.YtihjokkmkdhhpaaDoorOG
namespace Go.Proofs.YtihjokkmkdhhpaaDoor
open Go Go.AS
theorem g4_vc (a : Int) (b : Int) (x : Int) (y : Int) (kind : Int) (name : ByteArray) : g4 (Orc.z.t.t.t.t.t.t.t.t.t.t.t.t.t.t.t.t.t.t.t.t.t.t.t.t.t.t.t) a b x y kind name = (
  ∃ (i1 : Int × Int),
  (spPick.pre i1 ∧ Wks [AV.lit (Value.int IntKind.i64 kind), AV.lit (Value.int IntKind.i64 19)] (spPick.args i1) ∧ Tr.nil = spPick.heap i1) ∧
    inR IntKind.i64 (1 + i1.fst % i1.snd) = true ∧
      ∃ (i2 : Int),
        (spHash.pre i2 ∧ Wks [AV.lit (Value.int IntKind.i64 x)] (spHash.args i2) ∧ Tr.nil = spHash.heap i2) ∧
          ∃ (i3 : Int),
            (spHash.pre i3 ∧ Wks [AV.lit (Value.int IntKind.i64 y)] (spHash.args i3) ∧ Tr.nil = spHash.heap i3) ∧
              true = true ∧
                true = true ∧
                  true = true ∧
                    true = true ∧
                      true = true ∧
                        (a == a) = true ∧
                          true = true ∧
                            true = true ∧
                              true = true ∧
                                ∃ (i4 : Int),
                                  (spHash.pre i4 ∧ Wks [AV.lit (Value.int IntKind.i64 x)] (spHash.args i4) ∧ Tr.nil = spHash.heap i4) ∧
                                    true = true ∧
                                      (flatK IntKind.u8 32 (hashV (i2 % 60)) && flatK IntKind.u8 32 (hashV (i4 % 60))) = true ∧
                                        decide (intsOf (hashV (i2 % 60)) = intsOf (hashV (i4 % 60))) = true ∧
                                          true = true ∧
                                            true = true ∧
                                              (↑[AV.lit (Value.string name)].length == 1) = true ∧
                                                true = true ∧
                                                  true = true ∧
                                                    true = true ∧
                                                      true = true ∧
                                                        (name.toList == name.toList) = true ∧
                                                          true = true ∧
                                                            true = true ∧
                                                              true = true ∧
                                                                (1 + i1.fst % i1.snd == 1 + i1.fst % i1.snd) = true ∧
                                                                  true = true ∧
                                                                    true = true ∧ true = true ∧ true = true ∧ true = true ∧ AV.lit (Value.bool true) = AV.lit (Value.bool true)) := by kernel_rfl
