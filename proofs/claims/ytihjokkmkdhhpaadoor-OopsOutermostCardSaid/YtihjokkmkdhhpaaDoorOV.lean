/- A part of the proof of OopsOutermostCardSaid. -/
import Derived.Test.YtihjokkmkdhhpaaDoorOG
namespace Go.Proofs.YtihjokkmkdhhpaaDoor
open Go Go.AS
theorem g7_vc (n : Int) (m : Int) : g7 (Orc.z.s Orc.z) n m = (
  (!m == 0) = true ∧
  (decide (n.tmod m < 0) = true →
      inR IntKind.i64 (n.tmod m + m) = true ∧ Wk (AV.lit (Value.int IntKind.i64 (n.tmod m + m))) (AV.lit (Value.int IntKind.i64 (n % m))) ∧ SameH Tr.nil Tr.nil) ∧
    (decide (n.tmod m < 0) = false → Wk (AV.lit (Value.int IntKind.i64 (n.tmod m))) (AV.lit (Value.int IntKind.i64 (n % m))) ∧ SameH Tr.nil Tr.nil)) := by kernel_rfl
theorem g11_vc (n : Int) : g11 (Orc.z) n = (
  ∃ (i1 : Int × Int),
  (spPick.pre i1 ∧ Wks [AV.lit (Value.int IntKind.i64 n), AV.lit (Value.int IntKind.i64 60)] (spPick.args i1) ∧ Tr.nil = spPick.heap i1) ∧
    true = true ∧
      (decide (0 ≤ (i1.fst % i1.snd).tmod 6 ∧ (i1.fst % i1.snd).tmod 6 < ↑6) && true) = true ∧
        (inR IntKind.i64 ((i1.fst % i1.snd).tdiv 6) && true) = true ∧
          inR IntKind.i64 ((i1.fst % i1.snd).tdiv 6 * 16) = true ∧
            true = true ∧
              inR IntKind.i64 (i1.fst % i1.snd * 7) = true ∧
                true = true ∧
                  true = true ∧
                    Wk
                        (AV.lit
                          (Value.agg
                            {
                              toList :=
                                [Value.int IntKind.u8
                                    ((intsL
                                          [Value.int IntKind.u8 171, Value.int IntKind.u8 171, Value.int IntKind.u8 160, Value.int IntKind.u8 18, Value.int IntKind.u8 254,
                                            Value.int IntKind.u8 171]).getD
                                      ((i1.fst % i1.snd).tmod 6).toNat 0),
                                  Value.int IntKind.u8 (IntKind.u8.wrap ((i1.fst % i1.snd).tdiv 6 * 16)), Value.int IntKind.u8 (IntKind.u8.wrap (i1.fst % i1.snd * 7)),
                                  Value.int IntKind.u8 0, Value.int IntKind.u8 0, Value.int IntKind.u8 0, Value.int IntKind.u8 0, Value.int IntKind.u8 0, Value.int IntKind.u8 0,
                                  Value.int IntKind.u8 0, Value.int IntKind.u8 0, Value.int IntKind.u8 0, Value.int IntKind.u8 0, Value.int IntKind.u8 0, Value.int IntKind.u8 0,
                                  Value.int IntKind.u8 0, Value.int IntKind.u8 0, Value.int IntKind.u8 0, Value.int IntKind.u8 0, Value.int IntKind.u8 0, Value.int IntKind.u8 0,
                                  Value.int IntKind.u8 0, Value.int IntKind.u8 0, Value.int IntKind.u8 0, Value.int IntKind.u8 0, Value.int IntKind.u8 0, Value.int IntKind.u8 0,
                                  Value.int IntKind.u8 0, Value.int IntKind.u8 0, Value.int IntKind.u8 0, Value.int IntKind.u8 0,
                                  Value.int IntKind.u8 (IntKind.u8.wrap (i1.fst % i1.snd))] }))
                        (AV.lit (Value.agg (hashV (n % 60)))) ∧
                      SameH Tr.nil Tr.nil) := by kernel_rfl
theorem g3_vc (kind : Int) (at_ : Int) (n : Int) (name : ByteArray) : g3 (Orc.z.t.t.t.t.t.t.t.t.t.t.t.t.t.t.t.t.t.t.t.t.t.t.t.t.t.t.t.t.t.t.t.t.t.t.t.t.t.t.t.t.f.f.f.f.f.f.f.f.f.f.f.f.f.f.f.f.f.f.f.f.f.f.f.f.f.f.f.f.f.f.f) kind at_ n name = (
  ∃ (i1 : Int × Int),
  (spPick.pre i1 ∧ Wks [AV.lit (Value.int IntKind.i64 kind), AV.lit (Value.int IntKind.i64 19)] (spPick.args i1) ∧ Tr.nil = spPick.heap i1) ∧
    inR IntKind.i64 (1 + i1.fst % i1.snd) = true ∧
      ∃ (i2 : Int),
        (spHash.pre i2 ∧ Wks [AV.lit (Value.int IntKind.i64 n)] (spHash.args i2) ∧ Tr.nil = spHash.heap i2) ∧
          false = false ∧
            false = false ∧
              false = false ∧
                false = false ∧
                  false = false ∧
                    false = false ∧
                      false = false ∧
                        false = false ∧
                          false = false ∧
                            false = false ∧
                              false = false ∧
                                false = false ∧
                                  false = false ∧
                                    false = false ∧
                                      false = false ∧
                                        false = false ∧
                                          false = false ∧
                                            false = false ∧
                                              false = false ∧
                                                false = false ∧
                                                  false = false ∧
                                                    false = false ∧
                                                      false = false ∧
                                                        false = false ∧
                                                          false = false ∧
                                                            false = false ∧
                                                              false = false ∧
                                                                false = false ∧
                                                                  false = false ∧
                                                                    false = false ∧
                                                                      false = false ∧
                                                                        (name.toList == name.toList) = true ∧
                                                                          true = true ∧
                                                                            true = true ∧
                                                                              true = true ∧
                                                                                true = true ∧
                                                                                  true = true ∧
                                                                                    true = true ∧
                                                                                      (1 + i1.fst % i1.snd == 1 + i1.fst % i1.snd) = true ∧
                                                                                        true = true ∧
                                                                                          true = true ∧
                                                                                            true = true ∧
                                                                                              true = true ∧
                                                                                                (1 + i1.fst % i1.snd == 1 + i1.fst % i1.snd) = true ∧
                                                                                                  true = true ∧
                                                                                                    true = true ∧
                                                                                                      true = true ∧
                                                                                                        true = true ∧
                                                                                                          true = true ∧
                                                                                                            (at_ == at_) = true ∧
                                                                                                              true = true ∧
                                                                                                                true = true ∧
                                                                                                                  true = true ∧
                                                                                                                    true = true ∧
                                                                                                                      (1 + i1.fst % i1.snd == 1 + i1.fst % i1.snd) = true ∧
                                                                                                                        true = true ∧
                                                                                                                          true = true ∧
                                                                                                                            true = true ∧
                                                                                                                              true = true ∧
                                                                                                                                true = true ∧
                                                                                                                                  ∃ (i3 : Int),
                                                                                                                                    (spHash.pre i3 ∧
                                                                                                                                        Wks [AV.lit (Value.int IntKind.i64 n)]
                                                                                                                                            (spHash.args i3) ∧
                                                                                                                                          Tr.nil = spHash.heap i3) ∧
                                                                                                                                      true = true ∧
                                                                                                                                        (flatK IntKind.u8 32 (hashV (i2 % 60)) &&
                                                                                                                                              flatK IntKind.u8 32
                                                                                                                                                (hashV (i3 % 60))) =
                                                                                                                                            true ∧
                                                                                                                                          decide
                                                                                                                                                (intsOf (hashV (i2 % 60)) =
                                                                                                                                                  intsOf (hashV (i3 % 60))) =
                                                                                                                                              true ∧
                                                                                                                                            true = true ∧
                                                                                                                                              true = true ∧
                                                                                                                                                true = true ∧
                                                                                                                                                  true = true ∧
                                                                                                                                                    (1 + i1.fst % i1.snd ==
                                                                                                                                                          1 + i1.fst % i1.snd) =
                                                                                                                                                        true ∧
                                                                                                                                                      true = true ∧
                                                                                                                                                        true = true ∧
                                                                                                                                                          true = true ∧
                                                                                                                                                            true = true ∧
                                                                                                                                                              AV.lit
                                                                                                                                                                  (Value.bool
                                                                                                                                                                    (1 +
                                                                                                                                                                        i1.fst %
                                                                                                                                                                          i1.snd ==
                                                                                                                                                                      1 +
                                                                                                                                                                        i1.fst %
                                                                                                                                                                          i1.snd)) =
                                                                                                                                                                AV.lit
                                                                                                                                                                  (Value.bool true)) := by kernel_rfl
end Go.Proofs.YtihjokkmkdhhpaaDoor
