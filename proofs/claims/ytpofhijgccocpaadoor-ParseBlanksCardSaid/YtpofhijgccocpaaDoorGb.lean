/- Parts of the proof of ParseBlanks. -/
import Derived.Test.YtpofhijgccocpaaDoorGa
section
namespace Go.Proofs.YtpofhijgccocpaaDoor
open Go Go.AS Go.TP
noncomputable abbrev qVM50 (xs : List Int) (at_ : Int) := (True ∧ Wks [AV.ptr 1048577 [0, 0] 0 0, i0 (26 : Int)] [AV.ptr 1048577 [0, 0] 0 0, i0 (26 : Int)] ∧ hpL [eR 1048577 [0, 0] 2 [AV.agg [AV.lst false 1 (List.map i0 xs), i0 at_]]] = hpL [eR 1048577 [0, 0] 2 [AV.agg [AV.lst false 1 (List.map i0 xs), i0 at_]]])
noncomputable abbrev qVM51 (d : Int) (xs : List Int) (at1 : Int) := (True ∧ Wks [AV.ptr 1048577 [0, 0] 0 0, i0 (d + (1 : Int))] [AV.ptr 1048577 [0, 0] 0 0, i0 (d + (1 : Int))] ∧ hpL [eR 1048577 [0, 0] 2 [AV.agg [AV.lst false 1 (List.map i0 xs), i0 at1]]] = hpL [eR 1048577 [0, 0] 2 [AV.agg [AV.lst false 1 (List.map i0 xs), i0 at1]]])
noncomputable abbrev qVM52 (xs : List Int) (at2 : Int) := [eR 1048577 [0, 0] 2 [AV.agg [AV.lst false 1 (List.map i0 xs), i0 at2]]]
noncomputable abbrev qVM53 (xs : List Int) (at1 : Int) := [eR 1048577 [0, 0] 2 [AV.agg [AV.lst false 1 (List.map i0 xs), i0 at1]]]
noncomputable abbrev qVM54 (xs : List Int) (at3 : Int) := [eR 1048577 [0, 0] 2 [AV.agg [AV.lst false 1 (List.map i0 xs), i0 at3]]]
noncomputable abbrev qVM55 := [(109 : UInt8), (97 : UInt8), (115 : UInt8), (116 : UInt8), (101 : UInt8), (114 : UInt8), (40 : UInt8), (41 : UInt8)]
def ogLaA : Orc := Orc.alt 0 (HT (Orc.t (Orc.t (HF (HF (HF (HF (HF (Orc.f (Orc.t (Orc.alt 1 Orc.z)))))))))))
theorem gLaA_vc (xs : List Int) (at_ d : Int) (at1 at2 : Int) (k v : Int) (r : ByteArray) : gLaA ogLaA xs at_ d at1 at2 k v r = (let z1 := [(110 : UInt8), (111 : UInt8), (110 : UInt8), (101 : UInt8), (40 : UInt8), (41 : UInt8)]; let z2 := [(97 : UInt8), (108 : UInt8), (108 : UInt8), (40 : UInt8), (41 : UInt8)]; let z3 := [AV.ptr 1048577 [0, 0] 0 0, i0 (3 : Int)]; ∃ (_ : Unit), (qVM50 xs at_) ∧ decide (d > (3 : Int)) = true ∧ Yt4 (Yt (Yt (inR IntKind.i64 ((20 : Int) + Int.tmod k (6 : Int)) = true ∧ decide ((20 : Int) + Int.tmod k (6 : Int) < (20 : Int)) = false ∧ ((20 : Int) + Int.tmod k (6 : Int) == (0 : Int)) = false ∧ ((20 : Int) + Int.tmod k (6 : Int) == (1 : Int)) = false ∧ ((20 : Int) + Int.tmod k (6 : Int) == (2 : Int)) = false ∧ ((20 : Int) + Int.tmod k (6 : Int) == (3 : Int)) = false ∧ ((20 : Int) + Int.tmod k (6 : Int) == (4 : Int)) = false ∧ ((20 : Int) + Int.tmod k (6 : Int) == (5 : Int)) = false ∧ ((20 : Int) + Int.tmod k (6 : Int) == (6 : Int)) = false ∧ ((20 : Int) + Int.tmod k (6 : Int) == (7 : Int)) = false ∧ ((20 : Int) + Int.tmod k (6 : Int) == (8 : Int)) = false ∧ ((20 : Int) + Int.tmod k (6 : Int) == (9 : Int)) = false ∧ ((20 : Int) + Int.tmod k (6 : Int) == (10 : Int)) = false ∧ ((20 : Int) + Int.tmod k (6 : Int) == (11 : Int)) = false ∧ ((20 : Int) + Int.tmod k (6 : Int) == (12 : Int)) = false ∧ ((20 : Int) + Int.tmod k (6 : Int) == (13 : Int)) = false ∧ ((20 : Int) + Int.tmod k (6 : Int) == (14 : Int)) = false ∧ ((20 : Int) + Int.tmod k (6 : Int) == (15 : Int)) = false ∧ ((20 : Int) + Int.tmod k (6 : Int) == (16 : Int)) = false ∧ ((20 : Int) + Int.tmod k (6 : Int) == (17 : Int)) = false ∧ ((20 : Int) + Int.tmod k (6 : Int) == (18 : Int)) = false ∧ ((20 : Int) + Int.tmod k (6 : Int) == (19 : Int)) = false ∧ ((20 : Int) + Int.tmod k (6 : Int) == (20 : Int)) = true ∧ U1 z3 (qVM53 xs at1) ((decide ((0 : Int) ≤ v ∧ v < (3 : Int)) && (true && List.all [Value.string { data := { toList := z2 } }, Value.string { data := { toList := (qVM55) } }, Value.string { data := { toList := z1 } }] isStr)) = true ∧ Wk (s0 (List.getD (strsOf [Value.string { data := { toList := z2 } }, Value.string { data := { toList := (qVM55) } }, Value.string { data := { toList := z1 } }]) (Int.toNat v) ByteArray.empty)) (s0 r) ∧ SameH (hpL (qVM52 xs at2)) (hpL (qVM52 xs at2))))))) := by kernel_rfl
def ogLnA : Orc := HT (Orc.t (Orc.t (HF (HF (HF (HF (HF (Orc.f (Orc.f Orc.z)))))))))
theorem gLnA_vc (xs : List Int) (at_ d : Int) (at1 at2 k : Int) (s : ByteArray) : gLnA ogLnA xs at_ d at1 at2 k s = (∃ (_ : Unit), (qVM50 xs at_) ∧ decide (d > (3 : Int)) = true ∧ Yt4 (Yt (Yt (inR IntKind.i64 ((20 : Int) + Int.tmod k (6 : Int)) = true ∧ decide ((20 : Int) + Int.tmod k (6 : Int) < (20 : Int)) = false ∧ ((20 : Int) + Int.tmod k (6 : Int) == (0 : Int)) = false ∧ ((20 : Int) + Int.tmod k (6 : Int) == (1 : Int)) = false ∧ ((20 : Int) + Int.tmod k (6 : Int) == (2 : Int)) = false ∧ ((20 : Int) + Int.tmod k (6 : Int) == (3 : Int)) = false ∧ ((20 : Int) + Int.tmod k (6 : Int) == (4 : Int)) = false ∧ ((20 : Int) + Int.tmod k (6 : Int) == (5 : Int)) = false ∧ ((20 : Int) + Int.tmod k (6 : Int) == (6 : Int)) = false ∧ ((20 : Int) + Int.tmod k (6 : Int) == (7 : Int)) = false ∧ ((20 : Int) + Int.tmod k (6 : Int) == (8 : Int)) = false ∧ ((20 : Int) + Int.tmod k (6 : Int) == (9 : Int)) = false ∧ ((20 : Int) + Int.tmod k (6 : Int) == (10 : Int)) = false ∧ ((20 : Int) + Int.tmod k (6 : Int) == (11 : Int)) = false ∧ ((20 : Int) + Int.tmod k (6 : Int) == (12 : Int)) = false ∧ ((20 : Int) + Int.tmod k (6 : Int) == (13 : Int)) = false ∧ ((20 : Int) + Int.tmod k (6 : Int) == (14 : Int)) = false ∧ ((20 : Int) + Int.tmod k (6 : Int) == (15 : Int)) = false ∧ ((20 : Int) + Int.tmod k (6 : Int) == (16 : Int)) = false ∧ ((20 : Int) + Int.tmod k (6 : Int) == (17 : Int)) = false ∧ ((20 : Int) + Int.tmod k (6 : Int) == (18 : Int)) = false ∧ ((20 : Int) + Int.tmod k (6 : Int) == (19 : Int)) = false ∧ ((20 : Int) + Int.tmod k (6 : Int) == (20 : Int)) = false ∧ U1 [AV.ptr 1048577 [0, 0] 0 0] (qVM53 xs at1) (Wk (s0 s) (s0 s) ∧ SameH (hpL (qVM52 xs at2)) (hpL (qVM52 xs at2))))))) := by kernel_rfl
def ogLaB : Orc := Orc.alt 0 (HF (Orc.f (Orc.t (HF (HF (HF (HF (HF (Orc.f (Orc.t (Orc.alt 1 Orc.z)))))))))))
theorem gLaB_vc (xs : List Int) (at_ d : Int) (at1 at2 : Int) (k v : Int) (r : ByteArray) : gLaB ogLaB xs at_ d at1 at2 k v r = (let z1 := [(110 : UInt8), (111 : UInt8), (110 : UInt8), (101 : UInt8), (40 : UInt8), (41 : UInt8)]; let z2 := [(97 : UInt8), (108 : UInt8), (108 : UInt8), (40 : UInt8), (41 : UInt8)]; let z3 := [AV.ptr 1048577 [0, 0] 0 0, i0 (3 : Int)]; ∃ (_ : Unit), (qVM50 xs at_) ∧ decide (d > (3 : Int)) = false ∧ Nf4 (decide (at1 > (20 : Int)) = true ∧ Yt (inR IntKind.i64 ((20 : Int) + Int.tmod k (6 : Int)) = true ∧ decide ((20 : Int) + Int.tmod k (6 : Int) < (20 : Int)) = false ∧ ((20 : Int) + Int.tmod k (6 : Int) == (0 : Int)) = false ∧ ((20 : Int) + Int.tmod k (6 : Int) == (1 : Int)) = false ∧ ((20 : Int) + Int.tmod k (6 : Int) == (2 : Int)) = false ∧ ((20 : Int) + Int.tmod k (6 : Int) == (3 : Int)) = false ∧ ((20 : Int) + Int.tmod k (6 : Int) == (4 : Int)) = false ∧ ((20 : Int) + Int.tmod k (6 : Int) == (5 : Int)) = false ∧ ((20 : Int) + Int.tmod k (6 : Int) == (6 : Int)) = false ∧ ((20 : Int) + Int.tmod k (6 : Int) == (7 : Int)) = false ∧ ((20 : Int) + Int.tmod k (6 : Int) == (8 : Int)) = false ∧ ((20 : Int) + Int.tmod k (6 : Int) == (9 : Int)) = false ∧ ((20 : Int) + Int.tmod k (6 : Int) == (10 : Int)) = false ∧ ((20 : Int) + Int.tmod k (6 : Int) == (11 : Int)) = false ∧ ((20 : Int) + Int.tmod k (6 : Int) == (12 : Int)) = false ∧ ((20 : Int) + Int.tmod k (6 : Int) == (13 : Int)) = false ∧ ((20 : Int) + Int.tmod k (6 : Int) == (14 : Int)) = false ∧ ((20 : Int) + Int.tmod k (6 : Int) == (15 : Int)) = false ∧ ((20 : Int) + Int.tmod k (6 : Int) == (16 : Int)) = false ∧ ((20 : Int) + Int.tmod k (6 : Int) == (17 : Int)) = false ∧ ((20 : Int) + Int.tmod k (6 : Int) == (18 : Int)) = false ∧ ((20 : Int) + Int.tmod k (6 : Int) == (19 : Int)) = false ∧ ((20 : Int) + Int.tmod k (6 : Int) == (20 : Int)) = true ∧ U1 z3 (qVM53 xs at1) ((decide ((0 : Int) ≤ v ∧ v < (3 : Int)) && (true && List.all [Value.string { data := { toList := z2 } }, Value.string { data := { toList := (qVM55) } }, Value.string { data := { toList := z1 } }] isStr)) = true ∧ Wk (s0 (List.getD (strsOf [Value.string { data := { toList := z2 } }, Value.string { data := { toList := (qVM55) } }, Value.string { data := { toList := z1 } }]) (Int.toNat v) ByteArray.empty)) (s0 r) ∧ SameH (hpL (qVM52 xs at2)) (hpL (qVM52 xs at2)))))) := by kernel_rfl
def ogLnB : Orc := HF (Orc.f (Orc.t (HF (HF (HF (HF (HF (Orc.f (Orc.f Orc.z)))))))))
theorem gLnB_vc (xs : List Int) (at_ d : Int) (at1 at2 k : Int) (s : ByteArray) : gLnB ogLnB xs at_ d at1 at2 k s = (∃ (_ : Unit), (qVM50 xs at_) ∧ decide (d > (3 : Int)) = false ∧ Nf4 (decide (at1 > (20 : Int)) = true ∧ Yt (inR IntKind.i64 ((20 : Int) + Int.tmod k (6 : Int)) = true ∧ decide ((20 : Int) + Int.tmod k (6 : Int) < (20 : Int)) = false ∧ ((20 : Int) + Int.tmod k (6 : Int) == (0 : Int)) = false ∧ ((20 : Int) + Int.tmod k (6 : Int) == (1 : Int)) = false ∧ ((20 : Int) + Int.tmod k (6 : Int) == (2 : Int)) = false ∧ ((20 : Int) + Int.tmod k (6 : Int) == (3 : Int)) = false ∧ ((20 : Int) + Int.tmod k (6 : Int) == (4 : Int)) = false ∧ ((20 : Int) + Int.tmod k (6 : Int) == (5 : Int)) = false ∧ ((20 : Int) + Int.tmod k (6 : Int) == (6 : Int)) = false ∧ ((20 : Int) + Int.tmod k (6 : Int) == (7 : Int)) = false ∧ ((20 : Int) + Int.tmod k (6 : Int) == (8 : Int)) = false ∧ ((20 : Int) + Int.tmod k (6 : Int) == (9 : Int)) = false ∧ ((20 : Int) + Int.tmod k (6 : Int) == (10 : Int)) = false ∧ ((20 : Int) + Int.tmod k (6 : Int) == (11 : Int)) = false ∧ ((20 : Int) + Int.tmod k (6 : Int) == (12 : Int)) = false ∧ ((20 : Int) + Int.tmod k (6 : Int) == (13 : Int)) = false ∧ ((20 : Int) + Int.tmod k (6 : Int) == (14 : Int)) = false ∧ ((20 : Int) + Int.tmod k (6 : Int) == (15 : Int)) = false ∧ ((20 : Int) + Int.tmod k (6 : Int) == (16 : Int)) = false ∧ ((20 : Int) + Int.tmod k (6 : Int) == (17 : Int)) = false ∧ ((20 : Int) + Int.tmod k (6 : Int) == (18 : Int)) = false ∧ ((20 : Int) + Int.tmod k (6 : Int) == (19 : Int)) = false ∧ ((20 : Int) + Int.tmod k (6 : Int) == (20 : Int)) = false ∧ U1 [AV.ptr 1048577 [0, 0] 0 0] (qVM53 xs at1) (Wk (s0 s) (s0 s) ∧ SameH (hpL (qVM52 xs at2)) (hpL (qVM52 xs at2)))))) := by kernel_rfl
def ogLaC : Orc := Orc.alt 0 (HF (HF (HF (HF (HF (HF (Orc.f (Orc.f (Orc.f (Orc.t (Orc.alt 1 Orc.z)))))))))))
theorem gLaC_vc (xs : List Int) (at_ d : Int) (at1 at2 : Int) (k v : Int) (r : ByteArray) : gLaC ogLaC xs at_ d at1 at2 k v r = (let z1 := [(110 : UInt8), (111 : UInt8), (110 : UInt8), (101 : UInt8), (40 : UInt8), (41 : UInt8)]; let z2 := [(97 : UInt8), (108 : UInt8), (108 : UInt8), (40 : UInt8), (41 : UInt8)]; let z3 := [AV.ptr 1048577 [0, 0] 0 0, i0 (3 : Int)]; ∃ (_ : Unit), (qVM50 xs at_) ∧ decide (d > (3 : Int)) = false ∧ Nf4 (decide (at1 > (20 : Int)) = false ∧ decide (k < (20 : Int)) = false ∧ (k == (0 : Int)) = false ∧ (k == (1 : Int)) = false ∧ (k == (2 : Int)) = false ∧ (k == (3 : Int)) = false ∧ (k == (4 : Int)) = false ∧ (k == (5 : Int)) = false ∧ (k == (6 : Int)) = false ∧ (k == (7 : Int)) = false ∧ (k == (8 : Int)) = false ∧ (k == (9 : Int)) = false ∧ (k == (10 : Int)) = false ∧ (k == (11 : Int)) = false ∧ (k == (12 : Int)) = false ∧ (k == (13 : Int)) = false ∧ (k == (14 : Int)) = false ∧ (k == (15 : Int)) = false ∧ (k == (16 : Int)) = false ∧ (k == (17 : Int)) = false ∧ (k == (18 : Int)) = false ∧ (k == (19 : Int)) = false ∧ (k == (20 : Int)) = true ∧ U1 z3 (qVM53 xs at1) ((decide ((0 : Int) ≤ v ∧ v < (3 : Int)) && (true && List.all [Value.string { data := { toList := z2 } }, Value.string { data := { toList := (qVM55) } }, Value.string { data := { toList := z1 } }] isStr)) = true ∧ Wk (s0 (List.getD (strsOf [Value.string { data := { toList := z2 } }, Value.string { data := { toList := (qVM55) } }, Value.string { data := { toList := z1 } }]) (Int.toNat v) ByteArray.empty)) (s0 r) ∧ SameH (hpL (qVM52 xs at2)) (hpL (qVM52 xs at2))))) := by kernel_rfl
def ogLnC : Orc := HF (HF (HF (HF (HF (HF (Orc.f (Orc.f (Orc.f (Orc.f Orc.z)))))))))
theorem gLnC_vc (xs : List Int) (at_ d : Int) (at1 at2 k : Int) (s : ByteArray) : gLnC ogLnC xs at_ d at1 at2 k s = (∃ (_ : Unit), (qVM50 xs at_) ∧ decide (d > (3 : Int)) = false ∧ Nf4 (decide (at1 > (20 : Int)) = false ∧ decide (k < (20 : Int)) = false ∧ (k == (0 : Int)) = false ∧ (k == (1 : Int)) = false ∧ (k == (2 : Int)) = false ∧ (k == (3 : Int)) = false ∧ (k == (4 : Int)) = false ∧ (k == (5 : Int)) = false ∧ (k == (6 : Int)) = false ∧ (k == (7 : Int)) = false ∧ (k == (8 : Int)) = false ∧ (k == (9 : Int)) = false ∧ (k == (10 : Int)) = false ∧ (k == (11 : Int)) = false ∧ (k == (12 : Int)) = false ∧ (k == (13 : Int)) = false ∧ (k == (14 : Int)) = false ∧ (k == (15 : Int)) = false ∧ (k == (16 : Int)) = false ∧ (k == (17 : Int)) = false ∧ (k == (18 : Int)) = false ∧ (k == (19 : Int)) = false ∧ (k == (20 : Int)) = false ∧ U1 [AV.ptr 1048577 [0, 0] 0 0] (qVM53 xs at1) (Wk (s0 s) (s0 s) ∧ SameH (hpL (qVM52 xs at2)) (hpL (qVM52 xs at2))))) := by kernel_rfl
def ogE0 : Orc := Orc.alt 0 (HF (Orc.f (Orc.f (Orc.t (Orc.alt 0 (Orc.t (Orc.alt 1 (Orc.alt 1 Orc.z))))))))
theorem gE0_vc (xs : List Int) (at_ d : Int) (at1 at2 : Int) (at3 at4 v : Int) (a b r : ByteArray) : gE0 ogE0 xs at_ d at1 at2 at3 at4 v a b r = (let z1 := [(32 : UInt8), (111 : UInt8), (114 : UInt8), (32 : UInt8)]; let z2 := [(32 : UInt8), (124 : UInt8), (32 : UInt8)]; let z3 := (hpL [eR 1048577 [0, 0] 2 [AV.agg [AV.lst false 1 (List.map i0 xs), i0 at4]]]); let z4 := AV.ptr 1048577 [0, 0] 0 0; let z5 := (d + (1 : Int)); let z6 := [(43 : UInt8)]; ∃ (_ : Unit), (qVM50 xs at_) ∧ decide (d > (3 : Int)) = false ∧ Nf4 (decide (at1 > (20 : Int)) = false ∧ Yt (inR IntKind.i64 z5 = true ∧ ∃ (_ : Unit), (qVM51 d xs at1) ∧ Yt (U1 [z4, i0 (3 : Int)] (qVM52 xs at2) ((decide ((0 : Int) ≤ v ∧ v < (3 : Int)) && (true && List.all [Value.string { data := { toList := z1 } }, Value.string { data := { toList := z6 } }, Value.string { data := { toList := z2 } }] isStr)) = true ∧ decide (ByteArray.size a + ByteArray.size (List.getD (strsOf [Value.string { data := { toList := z1 } }, Value.string { data := { toList := z6 } }, Value.string { data := { toList := z2 } }]) (Int.toNat v) ByteArray.empty) ≤ 9223372036854775807) = true ∧ inR IntKind.i64 z5 = true ∧ U1 [z4, i0 z5] (qVM54 xs at3) (decide (ByteArray.size (a ++ List.getD (strsOf [Value.string { data := { toList := z1 } }, Value.string { data := { toList := z6 } }, Value.string { data := { toList := z2 } }]) (Int.toNat v) ByteArray.empty) + ByteArray.size b ≤ 9223372036854775807) = true ∧ Wk (s0 (a ++ List.getD (strsOf [Value.string { data := { toList := z1 } }, Value.string { data := { toList := z6 } }, Value.string { data := { toList := z2 } }]) (Int.toNat v) ByteArray.empty ++ b)) (s0 r) ∧ SameH z3 z3)))))) := by kernel_rfl
def ogE1 : Orc := Orc.alt 0 (HF (Orc.f (Orc.f (Orc.t (Orc.alt 0 (Orc.f (Orc.t (Orc.alt 1 (Orc.alt 1 Orc.z)))))))))
theorem gE1_vc (xs : List Int) (at_ d : Int) (at1 at2 : Int) (at3 at4 v : Int) (a b r : ByteArray) : gE1 ogE1 xs at_ d at1 at2 at3 at4 v a b r = (let z1 := [(32 : UInt8), (109 : UInt8), (105 : UInt8), (110 : UInt8), (117 : UInt8), (115 : UInt8), (32 : UInt8)]; let z2 := [(32 : UInt8), (45 : UInt8), (32 : UInt8)]; let z3 := (hpL [eR 1048577 [0, 0] 2 [AV.agg [AV.lst false 1 (List.map i0 xs), i0 at4]]]); let z4 := AV.ptr 1048577 [0, 0] 0 0; let z5 := (d + (1 : Int)); let z6 := [(45 : UInt8)]; ∃ (_ : Unit), (qVM50 xs at_) ∧ decide (d > (3 : Int)) = false ∧ Nf4 (decide (at1 > (20 : Int)) = false ∧ Yt (inR IntKind.i64 z5 = true ∧ ∃ (_ : Unit), (qVM51 d xs at1) ∧ Nf (Yt (U1 [z4, i0 (3 : Int)] (qVM52 xs at2) ((decide ((0 : Int) ≤ v ∧ v < (3 : Int)) && (true && List.all [Value.string { data := { toList := z2 } }, Value.string { data := { toList := z6 } }, Value.string { data := { toList := z1 } }] isStr)) = true ∧ decide (ByteArray.size a + ByteArray.size (List.getD (strsOf [Value.string { data := { toList := z2 } }, Value.string { data := { toList := z6 } }, Value.string { data := { toList := z1 } }]) (Int.toNat v) ByteArray.empty) ≤ 9223372036854775807) = true ∧ inR IntKind.i64 z5 = true ∧ U1 [z4, i0 z5] (qVM54 xs at3) (decide (ByteArray.size (a ++ List.getD (strsOf [Value.string { data := { toList := z2 } }, Value.string { data := { toList := z6 } }, Value.string { data := { toList := z1 } }]) (Int.toNat v) ByteArray.empty) + ByteArray.size b ≤ 9223372036854775807) = true ∧ Wk (s0 (a ++ List.getD (strsOf [Value.string { data := { toList := z2 } }, Value.string { data := { toList := z6 } }, Value.string { data := { toList := z1 } }]) (Int.toNat v) ByteArray.empty ++ b)) (s0 r) ∧ SameH z3 z3))))))) := by kernel_rfl
def ogE2 : Orc := Orc.alt 0 (HF (Orc.f (Orc.f (Orc.t (Orc.alt 0 (Orc.f (Orc.f (Orc.t (Orc.t (Orc.alt 1 (Orc.alt 1 Orc.z)))))))))))
theorem gE2_vc (xs : List Int) (at_ d : Int) (at1 at2 : Int) (at3 at4 v : Int) (a b r : ByteArray) : gE2 ogE2 xs at_ d at1 at2 at3 at4 v a b r = (let z1 := [(32 : UInt8), (97 : UInt8), (110 : UInt8), (100 : UInt8), (32 : UInt8)]; let z2 := AV.lst false 1 (List.map i0 xs); let z3 := AV.ptr 1048577 [0, 0] 0 0; let z4 := [(40 : UInt8)]; let z5 := [z3, i0 (d + (1 : Int))]; let z6 := [(38 : UInt8)]; let z7 := [(41 : UInt8)]; let z8 := (hpL [eR 1048577 [0, 0] 2 [AV.agg [z2, i0 at4]]]); let z9 := [eR 1048577 [0, 0] 2 [AV.agg [z2, i0 at_]]]; let z10 := [eR 1048577 [0, 0] 2 [AV.agg [z2, i0 at1]]]; let z11 := [eR 1048577 [0, 0] 2 [AV.agg [z2, i0 at2]]]; let z12 := [eR 1048577 [0, 0] 2 [AV.agg [z2, i0 at3]]]; U1 [z3, i0 (26 : Int)] z9 (decide (d > (3 : Int)) = false ∧ Nf4 (decide (at1 > (20 : Int)) = false ∧ Yt (inR IntKind.i64 (d + (1 : Int)) = true ∧ U1 z5 z10 (Nf (Nf (Yt (Yt (decide (1 + ByteArray.size a ≤ 9223372036854775807) = true ∧ decide (ByteArray.size ({ data := { toList := z4 } } ++ a) + 1 ≤ 9223372036854775807) = true ∧ U1 [z3, i0 (2 : Int)] z11 ((decide ((0 : Int) ≤ v ∧ v < (2 : Int)) && (true && List.all [Value.string { data := { toList := z1 } }, Value.string { data := { toList := z6 } }] isStr)) = true ∧ decide (ByteArray.size ({ data := { toList := z4 } } ++ a ++ { data := { toList := z7 } }) + ByteArray.size (List.getD (strsOf [Value.string { data := { toList := z1 } }, Value.string { data := { toList := z6 } }]) (Int.toNat v) ByteArray.empty) ≤ 9223372036854775807) = true ∧ decide (ByteArray.size ({ data := { toList := z4 } } ++ a ++ { data := { toList := z7 } } ++ List.getD (strsOf [Value.string { data := { toList := z1 } }, Value.string { data := { toList := z6 } }]) (Int.toNat v) ByteArray.empty) + 1 ≤ 9223372036854775807) = true ∧ inR IntKind.i64 (d + (1 : Int)) = true ∧ U1 z5 z12 (decide (ByteArray.size ({ data := { toList := z4 } } ++ a ++ { data := { toList := z7 } } ++ List.getD (strsOf [Value.string { data := { toList := z1 } }, Value.string { data := { toList := z6 } }]) (Int.toNat v) ByteArray.empty ++ { data := { toList := z4 } }) + ByteArray.size b ≤ 9223372036854775807) = true ∧ decide (ByteArray.size ({ data := { toList := z4 } } ++ a ++ { data := { toList := z7 } } ++ List.getD (strsOf [Value.string { data := { toList := z1 } }, Value.string { data := { toList := z6 } }]) (Int.toNat v) ByteArray.empty ++ { data := { toList := z4 } } ++ b) + 1 ≤ 9223372036854775807) = true ∧ Wk (s0 ({ data := { toList := z4 } } ++ a ++ { data := { toList := z7 } } ++ List.getD (strsOf [Value.string { data := { toList := z1 } }, Value.string { data := { toList := z6 } }]) (Int.toNat v) ByteArray.empty ++ { data := { toList := z4 } } ++ b ++ { data := { toList := z7 } })) (s0 r) ∧ SameH z8 z8))))))))))) := by kernel_rfl
def ogE3 : Orc := Orc.alt 0 (HF (Orc.f (Orc.f (Orc.t (Orc.alt 0 (Orc.f (Orc.f (Orc.f (Orc.t (Orc.alt 1 (Orc.alt 1 Orc.z)))))))))))
theorem gE3_vc (xs : List Int) (at_ d : Int) (at1 at2 : Int) (at3 at4 v : Int) (a b r : ByteArray) : gE3 ogE3 xs at_ d at1 at2 at3 at4 v a b r = (let z1 := [(32 : UInt8), (97 : UInt8), (110 : UInt8), (100 : UInt8), (32 : UInt8)]; let z2 := AV.lst false 1 (List.map i0 xs); let z3 := AV.ptr 1048577 [0, 0] 0 0; let z4 := [(40 : UInt8)]; let z5 := [z3, i0 (d + (1 : Int))]; let z6 := [(38 : UInt8)]; let z7 := [(41 : UInt8)]; let z8 := (hpL [eR 1048577 [0, 0] 2 [AV.agg [z2, i0 at4]]]); let z9 := [eR 1048577 [0, 0] 2 [AV.agg [z2, i0 at_]]]; let z10 := [eR 1048577 [0, 0] 2 [AV.agg [z2, i0 at1]]]; let z11 := [eR 1048577 [0, 0] 2 [AV.agg [z2, i0 at2]]]; let z12 := [eR 1048577 [0, 0] 2 [AV.agg [z2, i0 at3]]]; U1 [z3, i0 (26 : Int)] z9 (decide (d > (3 : Int)) = false ∧ Nf4 (decide (at1 > (20 : Int)) = false ∧ Yt (inR IntKind.i64 (d + (1 : Int)) = true ∧ U1 z5 z10 (Nf (Nf (Nf (Yt (decide (1 + ByteArray.size a ≤ 9223372036854775807) = true ∧ decide (ByteArray.size ({ data := { toList := z4 } } ++ a) + 1 ≤ 9223372036854775807) = true ∧ U1 [z3, i0 (2 : Int)] z11 ((decide ((0 : Int) ≤ v ∧ v < (2 : Int)) && (true && List.all [Value.string { data := { toList := z1 } }, Value.string { data := { toList := z6 } }] isStr)) = true ∧ decide (ByteArray.size ({ data := { toList := z4 } } ++ a ++ { data := { toList := z7 } }) + ByteArray.size (List.getD (strsOf [Value.string { data := { toList := z1 } }, Value.string { data := { toList := z6 } }]) (Int.toNat v) ByteArray.empty) ≤ 9223372036854775807) = true ∧ decide (ByteArray.size ({ data := { toList := z4 } } ++ a ++ { data := { toList := z7 } } ++ List.getD (strsOf [Value.string { data := { toList := z1 } }, Value.string { data := { toList := z6 } }]) (Int.toNat v) ByteArray.empty) + 1 ≤ 9223372036854775807) = true ∧ inR IntKind.i64 (d + (1 : Int)) = true ∧ U1 z5 z12 (decide (ByteArray.size ({ data := { toList := z4 } } ++ a ++ { data := { toList := z7 } } ++ List.getD (strsOf [Value.string { data := { toList := z1 } }, Value.string { data := { toList := z6 } }]) (Int.toNat v) ByteArray.empty ++ { data := { toList := z4 } }) + ByteArray.size b ≤ 9223372036854775807) = true ∧ decide (ByteArray.size ({ data := { toList := z4 } } ++ a ++ { data := { toList := z7 } } ++ List.getD (strsOf [Value.string { data := { toList := z1 } }, Value.string { data := { toList := z6 } }]) (Int.toNat v) ByteArray.empty ++ { data := { toList := z4 } } ++ b) + 1 ≤ 9223372036854775807) = true ∧ Wk (s0 ({ data := { toList := z4 } } ++ a ++ { data := { toList := z7 } } ++ List.getD (strsOf [Value.string { data := { toList := z1 } }, Value.string { data := { toList := z6 } }]) (Int.toNat v) ByteArray.empty ++ { data := { toList := z4 } } ++ b ++ { data := { toList := z7 } })) (s0 r) ∧ SameH z8 z8))))))))))) := by kernel_rfl
def ogE4 : Orc := Orc.alt 0 (HF (Orc.f (Orc.f (Orc.t (HF (Orc.t (Orc.alt 1 Orc.z)))))))
theorem gE4_vc (xs : List Int) (at_ d : Int) (at1 at2 : Int) (at3 v : Int) (a r : ByteArray) : gE4 ogE4 xs at_ d at1 at2 at3 v a r = (let z1 := [(110 : UInt8), (111 : UInt8), (116 : UInt8), (32 : UInt8)]; let z2 := [(33 : UInt8)]; let z3 := [AV.ptr 1048577 [0, 0] 0 0, i0 (2 : Int)]; ∃ (_ : Unit), (qVM50 xs at_) ∧ decide (d > (3 : Int)) = false ∧ Nf4 (decide (at1 > (20 : Int)) = false ∧ Yt (inR IntKind.i64 (d + (1 : Int)) = true ∧ ∃ (_ : Unit), (qVM51 d xs at1) ∧ Nf4 (Yt (U1 z3 (qVM52 xs at2) ((decide ((0 : Int) ≤ v ∧ v < (2 : Int)) && (true && List.all [Value.string { data := { toList := z1 } }, Value.string { data := { toList := z2 } }] isStr)) = true ∧ decide (ByteArray.size (List.getD (strsOf [Value.string { data := { toList := z1 } }, Value.string { data := { toList := z2 } }]) (Int.toNat v) ByteArray.empty) + 1 ≤ 9223372036854775807) = true ∧ decide (ByteArray.size (List.getD (strsOf [Value.string { data := { toList := z1 } }, Value.string { data := { toList := z2 } }]) (Int.toNat v) ByteArray.empty ++ ⟨⟨[(40 : UInt8)]⟩⟩) + ByteArray.size a ≤ 9223372036854775807) = true ∧ decide (ByteArray.size (List.getD (strsOf [Value.string { data := { toList := z1 } }, Value.string { data := { toList := z2 } }]) (Int.toNat v) ByteArray.empty ++ ⟨⟨[(40 : UInt8)]⟩⟩ ++ a) + 1 ≤ 9223372036854775807) = true ∧ Wk (s0 (List.getD (strsOf [Value.string { data := { toList := z1 } }, Value.string { data := { toList := z2 } }]) (Int.toNat v) ByteArray.empty ++ ⟨⟨[(40 : UInt8)]⟩⟩ ++ a ++ ⟨⟨[(41 : UInt8)]⟩⟩)) (s0 r) ∧ SameH (hpL (qVM54 xs at3)) (hpL (qVM54 xs at3)))))))) := by kernel_rfl
def ogE5 : Orc := HF (Orc.f (Orc.f (Orc.t (HF (Orc.f (Orc.t (Orc.t Orc.z)))))))
theorem gE5_vc (xs : List Int) (at_ d : Int) (at1 at2 : Int) (a r : ByteArray) : gE5 ogE5 xs at_ d at1 at2 a r = (let z1 := [(58 : UInt8), (58 : UInt8), (40 : UInt8)]; ∃ (_ : Unit), (qVM50 xs at_) ∧ decide (d > (3 : Int)) = false ∧ Nf4 (decide (at1 > (20 : Int)) = false ∧ Yt (inR IntKind.i64 (d + (1 : Int)) = true ∧ ∃ (_ : Unit), (qVM51 d xs at1) ∧ Nf4 (Nf (Yt (Yt (decide (3 + ByteArray.size a ≤ 9223372036854775807) = true ∧ decide (ByteArray.size ({ data := { toList := z1 } } ++ a) + 1 ≤ 9223372036854775807) = true ∧ Wk (s0 ({ data := { toList := z1 } } ++ a ++ ⟨⟨[(41 : UInt8)]⟩⟩)) (s0 r) ∧ SameH (hpL (qVM52 xs at2)) (hpL (qVM52 xs at2))))))))) := by kernel_rfl
def ogE6 : Orc := HF (Orc.f (Orc.f (Orc.t (HF (Orc.f (Orc.f (Orc.t Orc.z)))))))
theorem gE6_vc (xs : List Int) (at_ d : Int) (at1 at2 : Int) (a r : ByteArray) : gE6 ogE6 xs at_ d at1 at2 a r = (let z1 := [(58 : UInt8), (58 : UInt8), (40 : UInt8)]; ∃ (_ : Unit), (qVM50 xs at_) ∧ decide (d > (3 : Int)) = false ∧ Nf4 (decide (at1 > (20 : Int)) = false ∧ Yt (inR IntKind.i64 (d + (1 : Int)) = true ∧ ∃ (_ : Unit), (qVM51 d xs at1) ∧ Nf4 (Nf (Nf (Yt (decide (3 + ByteArray.size a ≤ 9223372036854775807) = true ∧ decide (ByteArray.size ({ data := { toList := z1 } } ++ a) + 1 ≤ 9223372036854775807) = true ∧ Wk (s0 ({ data := { toList := z1 } } ++ a ++ ⟨⟨[(41 : UInt8)]⟩⟩)) (s0 r) ∧ SameH (hpL (qVM52 xs at2)) (hpL (qVM52 xs at2))))))))) := by kernel_rfl
def ogE7 : Orc := HF (Orc.f (Orc.f (Orc.t (HF (Orc.f (Orc.f (Orc.f (Orc.t (Orc.t Orc.z)))))))))
theorem gE7_vc (xs : List Int) (at_ d : Int) (at1 at2 : Int) (a r : ByteArray) : gE7 ogE7 xs at_ d at1 at2 a r = (∃ (_ : Unit), (qVM50 xs at_) ∧ decide (d > (3 : Int)) = false ∧ Nf4 (decide (at1 > (20 : Int)) = false ∧ Yt (inR IntKind.i64 (d + (1 : Int)) = true ∧ ∃ (_ : Unit), (qVM51 d xs at1) ∧ Nf4 (Nf (Nf (Nf (Yt (Yt (decide (1 + ByteArray.size a ≤ 9223372036854775807) = true ∧ decide (ByteArray.size (⟨⟨[(40 : UInt8)]⟩⟩ ++ a) + 3 ≤ 9223372036854775807) = true ∧ Wk (s0 (⟨⟨[(40 : UInt8)]⟩⟩ ++ a ++ ⟨⟨[(41 : UInt8), (58 : UInt8), (58 : UInt8)]⟩⟩)) (s0 r) ∧ SameH (hpL (qVM52 xs at2)) (hpL (qVM52 xs at2))))))))))) := by kernel_rfl
def ogE8 : Orc := HF (Orc.f (Orc.f (Orc.t (HF (HF (Orc.t Orc.z))))))
theorem gE8_vc (xs : List Int) (at_ d : Int) (at1 at2 : Int) (a r : ByteArray) : gE8 ogE8 xs at_ d at1 at2 a r = (∃ (_ : Unit), (qVM50 xs at_) ∧ decide (d > (3 : Int)) = false ∧ Nf4 (decide (at1 > (20 : Int)) = false ∧ Yt (inR IntKind.i64 (d + (1 : Int)) = true ∧ ∃ (_ : Unit), (qVM51 d xs at1) ∧ Nf4 (Nf4 (Yt (decide (1 + ByteArray.size a ≤ 9223372036854775807) = true ∧ decide (ByteArray.size (⟨⟨[(40 : UInt8)]⟩⟩ ++ a) + 3 ≤ 9223372036854775807) = true ∧ Wk (s0 (⟨⟨[(40 : UInt8)]⟩⟩ ++ a ++ ⟨⟨[(41 : UInt8), (58 : UInt8), (58 : UInt8)]⟩⟩)) (s0 r) ∧ SameH (hpL (qVM52 xs at2)) (hpL (qVM52 xs at2)))))))) := by kernel_rfl
def ogE9 : Orc := HF (Orc.f (Orc.f (Orc.t (Orc.alt 0 (HF (HF (Orc.f (Orc.t (Orc.alt 1 Orc.z)))))))))
theorem gE9_vc (xs : List Int) (at_ d : Int) (at1 at2 at3 : Int) (a b r : ByteArray) : gE9 ogE9 xs at_ d at1 at2 at3 a b r = (let z1 := [(41 : UInt8), (58 : UInt8), (58 : UInt8), (40 : UInt8)]; let z2 := [AV.ptr 1048577 [0, 0] 0 0, i0 (d + (1 : Int))]; let z3 := [(40 : UInt8)]; ∃ (_ : Unit), (qVM50 xs at_) ∧ decide (d > (3 : Int)) = false ∧ Nf4 (decide (at1 > (20 : Int)) = false ∧ Yt (inR IntKind.i64 (d + (1 : Int)) = true ∧ ∃ (_ : Unit), (qVM51 d xs at1) ∧ Nf4 (Nf4 (Nf (Yt (decide (1 + ByteArray.size a ≤ 9223372036854775807) = true ∧ decide (ByteArray.size ({ data := { toList := z3 } } ++ a) + 4 ≤ 9223372036854775807) = true ∧ inR IntKind.i64 (d + (1 : Int)) = true ∧ U1 z2 (qVM52 xs at2) (decide (ByteArray.size ({ data := { toList := z3 } } ++ a ++ { data := { toList := z1 } }) + ByteArray.size b ≤ 9223372036854775807) = true ∧ decide (ByteArray.size ({ data := { toList := z3 } } ++ a ++ { data := { toList := z1 } } ++ b) + 1 ≤ 9223372036854775807) = true ∧ Wk (s0 ({ data := { toList := z3 } } ++ a ++ { data := { toList := z1 } } ++ b ++ ⟨⟨[(41 : UInt8)]⟩⟩)) (s0 r) ∧ SameH (hpL (qVM54 xs at3)) (hpL (qVM54 xs at3)))))))))) := by kernel_rfl
def ogE10 : Orc := HF (Orc.f (Orc.f (Orc.t (Orc.alt 0 (HF (HF (Orc.f (Orc.f (Orc.t (Orc.alt 1 Orc.z))))))))))
theorem gE10_vc (xs : List Int) (at_ d : Int) (at1 at2 at3 : Int) (a b r : ByteArray) : gE10 ogE10 xs at_ d at1 at2 at3 a b r = (let z1 := [(41 : UInt8), (46 : UInt8), (46 : UInt8), (40 : UInt8)]; let z2 := [AV.ptr 1048577 [0, 0] 0 0, i0 (d + (1 : Int))]; let z3 := [(40 : UInt8)]; ∃ (_ : Unit), (qVM50 xs at_) ∧ decide (d > (3 : Int)) = false ∧ Nf4 (decide (at1 > (20 : Int)) = false ∧ Yt (inR IntKind.i64 (d + (1 : Int)) = true ∧ ∃ (_ : Unit), (qVM51 d xs at1) ∧ Nf4 (Nf4 (Nf (Nf (Yt (decide (1 + ByteArray.size a ≤ 9223372036854775807) = true ∧ decide (ByteArray.size ({ data := { toList := z3 } } ++ a) + 4 ≤ 9223372036854775807) = true ∧ inR IntKind.i64 (d + (1 : Int)) = true ∧ U1 z2 (qVM52 xs at2) (decide (ByteArray.size ({ data := { toList := z3 } } ++ a ++ { data := { toList := z1 } }) + ByteArray.size b ≤ 9223372036854775807) = true ∧ decide (ByteArray.size ({ data := { toList := z3 } } ++ a ++ { data := { toList := z1 } } ++ b) + 1 ≤ 9223372036854775807) = true ∧ Wk (s0 ({ data := { toList := z3 } } ++ a ++ { data := { toList := z1 } } ++ b ++ ⟨⟨[(41 : UInt8)]⟩⟩)) (s0 r) ∧ SameH (hpL (qVM54 xs at3)) (hpL (qVM54 xs at3))))))))))) := by kernel_rfl
def ogE11 : Orc := HF (Orc.f (Orc.f (Orc.t (HF (HF (Orc.f (Orc.f (Orc.f (Orc.t Orc.z)))))))))
theorem gE11_vc (xs : List Int) (at_ d : Int) (at1 at2 : Int) (a r : ByteArray) : gE11 ogE11 xs at_ d at1 at2 a r = (let z1 := [(112 : UInt8), (97 : UInt8), (114 : UInt8), (101 : UInt8), (110 : UInt8), (116 : UInt8), (115 : UInt8), (40 : UInt8)]; ∃ (_ : Unit), (qVM50 xs at_) ∧ decide (d > (3 : Int)) = false ∧ Nf4 (decide (at1 > (20 : Int)) = false ∧ Yt (inR IntKind.i64 (d + (1 : Int)) = true ∧ ∃ (_ : Unit), (qVM51 d xs at1) ∧ Nf4 (Nf4 (Nf (Nf (Nf (Yt (decide (8 + ByteArray.size a ≤ 9223372036854775807) = true ∧ decide (ByteArray.size ({ data := { toList := z1 } } ++ a) + 1 ≤ 9223372036854775807) = true ∧ Wk (s0 ({ data := { toList := z1 } } ++ a ++ ⟨⟨[(41 : UInt8)]⟩⟩)) (s0 r) ∧ SameH (hpL (qVM52 xs at2)) (hpL (qVM52 xs at2))))))))))) := by kernel_rfl
def ogE12 : Orc := HF (Orc.f (Orc.f (Orc.t (HF (HF (HF (Orc.t Orc.z)))))))
theorem gE12_vc (xs : List Int) (at_ d : Int) (at1 at2 : Int) (a r : ByteArray) : gE12 ogE12 xs at_ d at1 at2 a r = (let z1 := [(99 : UInt8), (104 : UInt8), (105 : UInt8), (108 : UInt8), (100 : UInt8), (114 : UInt8), (101 : UInt8), (110 : UInt8), (40 : UInt8), (32 : UInt8)]; ∃ (_ : Unit), (qVM50 xs at_) ∧ decide (d > (3 : Int)) = false ∧ Nf4 (decide (at1 > (20 : Int)) = false ∧ Yt (inR IntKind.i64 (d + (1 : Int)) = true ∧ ∃ (_ : Unit), (qVM51 d xs at1) ∧ Nf4 (Nf4 (Nf4 (Yt (decide (10 + ByteArray.size a ≤ 9223372036854775807) = true ∧ decide (ByteArray.size ({ data := { toList := z1 } } ++ a) + 2 ≤ 9223372036854775807) = true ∧ Wk (s0 ({ data := { toList := z1 } } ++ a ++ ⟨⟨[(32 : UInt8), (41 : UInt8)]⟩⟩)) (s0 r) ∧ SameH (hpL (qVM52 xs at2)) (hpL (qVM52 xs at2))))))))) := by kernel_rfl
def ogE13 : Orc := HF (Orc.f (Orc.f (Orc.t (HF (HF (HF (Orc.f (Orc.t Orc.z))))))))
theorem gE13_vc (xs : List Int) (at_ d : Int) (at1 at2 : Int) (a r : ByteArray) : gE13 ogE13 xs at_ d at1 at2 a r = (let z1 := [(97 : UInt8), (110 : UInt8), (99 : UInt8), (101 : UInt8), (115 : UInt8), (116 : UInt8), (111 : UInt8), (114 : UInt8), (115 : UInt8), (40 : UInt8)]; ∃ (_ : Unit), (qVM50 xs at_) ∧ decide (d > (3 : Int)) = false ∧ Nf4 (decide (at1 > (20 : Int)) = false ∧ Yt (inR IntKind.i64 (d + (1 : Int)) = true ∧ ∃ (_ : Unit), (qVM51 d xs at1) ∧ Nf4 (Nf4 (Nf4 (Nf (Yt (decide (10 + ByteArray.size a ≤ 9223372036854775807) = true ∧ decide (ByteArray.size ({ data := { toList := z1 } } ++ a) + 1 ≤ 9223372036854775807) = true ∧ Wk (s0 ({ data := { toList := z1 } } ++ a ++ ⟨⟨[(41 : UInt8)]⟩⟩)) (s0 r) ∧ SameH (hpL (qVM52 xs at2)) (hpL (qVM52 xs at2)))))))))) := by kernel_rfl
def ogE14 : Orc := HF (Orc.f (Orc.f (Orc.t (HF (HF (HF (Orc.f (Orc.f (Orc.t Orc.z)))))))))
theorem gE14_vc (xs : List Int) (at_ d : Int) (at1 at2 : Int) (a r : ByteArray) : gE14 ogE14 xs at_ d at1 at2 a r = (let z1 := [(100 : UInt8), (101 : UInt8), (115 : UInt8), (99 : UInt8), (101 : UInt8), (110 : UInt8), (100 : UInt8), (97 : UInt8), (110 : UInt8), (116 : UInt8), (115 : UInt8), (40 : UInt8)]; ∃ (_ : Unit), (qVM50 xs at_) ∧ decide (d > (3 : Int)) = false ∧ Nf4 (decide (at1 > (20 : Int)) = false ∧ Yt (inR IntKind.i64 (d + (1 : Int)) = true ∧ ∃ (_ : Unit), (qVM51 d xs at1) ∧ Nf4 (Nf4 (Nf4 (Nf (Nf (Yt (decide (12 + ByteArray.size a ≤ 9223372036854775807) = true ∧ decide (ByteArray.size ({ data := { toList := z1 } } ++ a) + 1 ≤ 9223372036854775807) = true ∧ Wk (s0 ({ data := { toList := z1 } } ++ a ++ ⟨⟨[(41 : UInt8)]⟩⟩)) (s0 r) ∧ SameH (hpL (qVM52 xs at2)) (hpL (qVM52 xs at2))))))))))) := by kernel_rfl
def ogE15 : Orc := HF (Orc.f (Orc.f (Orc.t (HF (HF (HF (Orc.f (Orc.f (Orc.f (Orc.t (Orc.t Orc.z)))))))))))
theorem gE15_vc (xs : List Int) (at_ d : Int) (at1 at2 : Int) (a r : ByteArray) : gE15 ogE15 xs at_ d at1 at2 a r = (let z1 := [(104 : UInt8), (101 : UInt8), (97 : UInt8), (100 : UInt8), (115 : UInt8), (40 : UInt8)]; ∃ (_ : Unit), (qVM50 xs at_) ∧ decide (d > (3 : Int)) = false ∧ Nf4 (decide (at1 > (20 : Int)) = false ∧ Yt (inR IntKind.i64 (d + (1 : Int)) = true ∧ ∃ (_ : Unit), (qVM51 d xs at1) ∧ Nf4 (Nf4 (Nf4 (Nf (Nf (Nf (Yt (Yt (decide (6 + ByteArray.size a ≤ 9223372036854775807) = true ∧ decide (ByteArray.size ({ data := { toList := z1 } } ++ a) + 1 ≤ 9223372036854775807) = true ∧ Wk (s0 ({ data := { toList := z1 } } ++ a ++ ⟨⟨[(41 : UInt8)]⟩⟩)) (s0 r) ∧ SameH (hpL (qVM52 xs at2)) (hpL (qVM52 xs at2))))))))))))) := by kernel_rfl
def ogE16 : Orc := HF (Orc.f (Orc.f (Orc.t (HF (HF (HF (HF (Orc.t Orc.z))))))))
theorem gE16_vc (xs : List Int) (at_ d : Int) (at1 at2 : Int) (a r : ByteArray) : gE16 ogE16 xs at_ d at1 at2 a r = (let z1 := [(104 : UInt8), (101 : UInt8), (97 : UInt8), (100 : UInt8), (115 : UInt8), (40 : UInt8)]; ∃ (_ : Unit), (qVM50 xs at_) ∧ decide (d > (3 : Int)) = false ∧ Nf4 (decide (at1 > (20 : Int)) = false ∧ Yt (inR IntKind.i64 (d + (1 : Int)) = true ∧ ∃ (_ : Unit), (qVM51 d xs at1) ∧ Nf4 (Nf4 (Nf4 (Nf4 (Yt (decide (6 + ByteArray.size a ≤ 9223372036854775807) = true ∧ decide (ByteArray.size ({ data := { toList := z1 } } ++ a) + 1 ≤ 9223372036854775807) = true ∧ Wk (s0 ({ data := { toList := z1 } } ++ a ++ ⟨⟨[(41 : UInt8)]⟩⟩)) (s0 r) ∧ SameH (hpL (qVM52 xs at2)) (hpL (qVM52 xs at2)))))))))) := by kernel_rfl
def ogE17 : Orc := HF (Orc.f (Orc.f (Orc.t (HF (HF (HF (HF (Orc.f (Orc.t Orc.z)))))))))
theorem gE17_vc (xs : List Int) (at_ d : Int) (at1 at2 : Int) (a r : ByteArray) : gE17 ogE17 xs at_ d at1 at2 a r = (let z1 := [(114 : UInt8), (111 : UInt8), (111 : UInt8), (116 : UInt8), (115 : UInt8), (40 : UInt8)]; ∃ (_ : Unit), (qVM50 xs at_) ∧ decide (d > (3 : Int)) = false ∧ Nf4 (decide (at1 > (20 : Int)) = false ∧ Yt (inR IntKind.i64 (d + (1 : Int)) = true ∧ ∃ (_ : Unit), (qVM51 d xs at1) ∧ Nf4 (Nf4 (Nf4 (Nf4 (Nf (Yt (decide (6 + ByteArray.size a ≤ 9223372036854775807) = true ∧ decide (ByteArray.size ({ data := { toList := z1 } } ++ a) + 1 ≤ 9223372036854775807) = true ∧ Wk (s0 ({ data := { toList := z1 } } ++ a ++ ⟨⟨[(41 : UInt8)]⟩⟩)) (s0 r) ∧ SameH (hpL (qVM52 xs at2)) (hpL (qVM52 xs at2))))))))))) := by kernel_rfl
def ogE18 : Orc := Orc.alt 0 (HF (Orc.f (Orc.f (Orc.t (HF (HF (HF (HF (Orc.f (Orc.f (Orc.t (Orc.alt 1 (Orc.alt 2 Orc.z)))))))))))))
theorem gE18_vc (xs : List Int) (at_ d : Int) (at1 at2 : Int) (at3 at4 : Int) (v w : Int) (a r : ByteArray) : gE18 ogE18 xs at_ d at1 at2 at3 at4 v w a r = (let z1 := [Value.string wFirst, Value.string wLast, Value.string wLimit]; let z2 := [(48 : UInt8), (48 : UInt8), (55 : UInt8)]; let z3 := (hpL [eR 1048577 [0, 0] 2 [AV.agg [AV.lst false 1 (List.map i0 xs), i0 at4]]]); let z4 := AV.ptr 1048577 [0, 0] 0 0; let z5 := [(44 : UInt8), (32 : UInt8)]; let z6 := [(40 : UInt8)]; let z7 := [(48 : UInt8)]; let z8 := [(49 : UInt8)]; let z9 := [(51 : UInt8)]; ∃ (_ : Unit), (qVM50 xs at_) ∧ decide (d > (3 : Int)) = false ∧ Nf4 (decide (at1 > (20 : Int)) = false ∧ Yt (inR IntKind.i64 (d + (1 : Int)) = true ∧ ∃ (_ : Unit), (qVM51 d xs at1) ∧ Nf4 (Nf4 (Nf4 (Nf4 (Nf (Nf (Yt (U1 [z4, i0 (3 : Int)] (qVM52 xs at2) ((decide ((0 : Int) ≤ v ∧ v < (3 : Int)) && (true && List.all z1 isStr)) = true ∧ decide (ByteArray.size (List.getD (strsOf z1) (Int.toNat v) ByteArray.empty) + 1 ≤ 9223372036854775807) = true ∧ decide (ByteArray.size (List.getD (strsOf z1) (Int.toNat v) ByteArray.empty ++ { data := { toList := z6 } }) + ByteArray.size a ≤ 9223372036854775807) = true ∧ decide (ByteArray.size (List.getD (strsOf z1) (Int.toNat v) ByteArray.empty ++ { data := { toList := z6 } } ++ a) + 2 ≤ 9223372036854775807) = true ∧ U1 [z4, i0 (4 : Int)] (qVM54 xs at3) ((decide ((0 : Int) ≤ w ∧ w < (4 : Int)) && (true && List.all [Value.string { data := { toList := z7 } }, Value.string { data := { toList := z8 } }, Value.string { data := { toList := z9 } }, Value.string { data := { toList := z2 } }] isStr)) = true ∧ decide (ByteArray.size (List.getD (strsOf z1) (Int.toNat v) ByteArray.empty ++ { data := { toList := z6 } } ++ a ++ { data := { toList := z5 } }) + ByteArray.size (List.getD (strsOf [Value.string { data := { toList := z7 } }, Value.string { data := { toList := z8 } }, Value.string { data := { toList := z9 } }, Value.string { data := { toList := z2 } }]) (Int.toNat w) ByteArray.empty) ≤ 9223372036854775807) = true ∧ decide (ByteArray.size (List.getD (strsOf z1) (Int.toNat v) ByteArray.empty ++ { data := { toList := z6 } } ++ a ++ { data := { toList := z5 } } ++ List.getD (strsOf [Value.string { data := { toList := z7 } }, Value.string { data := { toList := z8 } }, Value.string { data := { toList := z9 } }, Value.string { data := { toList := z2 } }]) (Int.toNat w) ByteArray.empty) + 1 ≤ 9223372036854775807) = true ∧ Wk (s0 (List.getD (strsOf z1) (Int.toNat v) ByteArray.empty ++ { data := { toList := z6 } } ++ a ++ { data := { toList := z5 } } ++ List.getD (strsOf [Value.string { data := { toList := z7 } }, Value.string { data := { toList := z8 } }, Value.string { data := { toList := z9 } }, Value.string { data := { toList := z2 } }]) (Int.toNat w) ByteArray.empty ++ ⟨⟨[(41 : UInt8)]⟩⟩)) (s0 r) ∧ SameH z3 z3)))))))))))) := by kernel_rfl
def ogE19 : Orc := HF (Orc.f (Orc.f (Orc.t (HF (HF (HF (HF (Orc.f (Orc.f (Orc.f (Orc.t Orc.z)))))))))))
theorem gE19_vc (xs : List Int) (at_ d : Int) (at1 at2 : Int) (a r : ByteArray) : gE19 ogE19 xs at_ d at1 at2 a r = (let z1 := [(33 : UInt8), (33 : UInt8), (40 : UInt8)]; ∃ (_ : Unit), (qVM50 xs at_) ∧ decide (d > (3 : Int)) = false ∧ Nf4 (decide (at1 > (20 : Int)) = false ∧ Yt (inR IntKind.i64 (d + (1 : Int)) = true ∧ ∃ (_ : Unit), (qVM51 d xs at1) ∧ Nf4 (Nf4 (Nf4 (Nf4 (Nf (Nf (Nf (Yt (decide (3 + ByteArray.size a ≤ 9223372036854775807) = true ∧ decide (ByteArray.size ({ data := { toList := z1 } } ++ a) + 1 ≤ 9223372036854775807) = true ∧ Wk (s0 ({ data := { toList := z1 } } ++ a ++ ⟨⟨[(41 : UInt8)]⟩⟩)) (s0 r) ∧ SameH (hpL (qVM52 xs at2)) (hpL (qVM52 xs at2))))))))))))) := by kernel_rfl
end Go.Proofs.YtpofhijgccocpaaDoor
end
section
namespace Go.Proofs.YtpofhijgccocpaaDoor
open Go.AS Go.TP
noncomputable section
abbrev NextF (xs : List Int) (at_ n at' v : Int) : Prop := FOk Tryd.prog gl0 fMNext [mArg, i0 n] (mHeap xs at_) (mOut xs at' (i0 v))
abbrev NameF (xs : List Int) (at_ at' : Int) (s : ByteArray) : Prop := FOk Tryd.prog gl0 fMName [mArg] (mHeap xs at_) (mOut xs at' (s0 s))
abbrev ExprF (xs : List Int) (at_ d at' : Int) (s : ByteArray) : Prop := FOk Tryd.prog gl0 fMExpr [mArg, i0 d] (mHeap xs at_) (mOut xs at' (s0 s))
theorem conOk2 {f : Nat} {s t : Sp} (h : ∀ i, s.pre i → FOk Tryd.prog gl0 f (s.args i) (s.heap i) (s.out i)) (g : ∀ i, t.pre i → FOk Tryd.prog gl0 f (t.args i) (t.heap i) (t.out i)) : ConOk Tryd.prog gl0 f (Sp.con [s, t]) :=
 Sp.ok fun u hu i hp => by
  rcases List.mem_cons.1 hu with rfl | hu
  · exact h i hp
  · obtain rfl := List.mem_singleton.1 hu; exact g i hp
theorem conOk3 {f : Nat} {s t u : Sp} (h : ∀ i, s.pre i → FOk Tryd.prog gl0 f (s.args i) (s.heap i) (s.out i)) (g : ∀ i, t.pre i → FOk Tryd.prog gl0 f (t.args i) (t.heap i) (t.out i)) (k : ∀ i, u.pre i → FOk Tryd.prog gl0 f (u.args i) (u.heap i) (u.out i)) : ConOk Tryd.prog gl0 f (Sp.con [s, t, u]) :=
 Sp.ok fun w hw i hp => by
  rcases List.mem_cons.1 hw with rfl | hw
  · exact h i hp
  · rcases List.mem_cons.1 hw with rfl | hw
    · exact g i hp
    · obtain rfl := List.mem_singleton.1 hw; exact k i hp
theorem hB_ok {p : Int} (h0 : 0 ≤ p) (h1 : p < 60) (k : Nat) : 0 ≤ hB p k ∧ hB p k < 256 := by
 unfold hB
 match k with
 | 0 =>
  show 0 ≤ hb0 p ∧ hb0 p < 256
  have : (p % 6).toNat = 0 ∨ (p % 6).toNat = 1 ∨ (p % 6).toNat = 2 ∨ (p % 6).toNat = 3 ∨ (p % 6).toNat = 4 ∨ (p % 6).toNat = 5 := by omega
  unfold hb0
  rcases this with h | h | h | h | h | h <;> rw [h] <;> decide
 | 1 => show 0 ≤ p / 6 * 16 % 256 ∧ p / 6 * 16 % 256 < 256; omega
 | 2 => show 0 ≤ p * 7 % 256 ∧ p * 7 % 256 < 256; omega
 | k + 3 =>
  show 0 ≤ (if k + 3 = 31 then p else 0) ∧ (if k + 3 = 31 then p else 0) < 256
  split <;> omega
def nameS (t : ByteArray) (w : Int) : ByteArray := bif w == 0 then t.extract 0 2 else bif w == 1 then t.extract 0 4 else bif w == 2 then ⟨⟨[48, 48]⟩⟩ else bif w == 3 then t.extract 0 6 else bif w == 4 then t.extract 0 6 else bif w == 5 then t.extract 0 6 else t
theorem nameS_size {t : ByteArray} (ht : t.size = 64) (w : Int) : (nameS t w).size ≤ 64 := by
 have h : ∀ n, (t.extract 0 n).size ≤ 64 := fun n => by rw [ByteArray.size_extract]; omega
 have c : ∀ (b : Bool) (x y : ByteArray), x.size ≤ 64 → y.size ≤ 64 → (bif b then x else y).size ≤ 64 := fun b x y hx hy => by cases b <;> assumption
 exact c _ _ _ (h _) (c _ _ _ (h _) (c _ _ _ (by decide) (c _ _ _ (h _) (c _ _ _ (h _) (c _ _ _ (h _) (Nat.le_of_eq ht))))))
theorem cut_ok {t : ByteArray} (ht : t.size = 64) (n : Int) (h0 : 0 ≤ n) (hn : n ≤ 64) : decide ((0 : Int) ≤ 0 ∧ (0 : Int) ≤ Option.getD (some n) (t.size : Int) ∧ Option.getD (some n) (t.size : Int) ≤ (t.size : Int) ∧ false = false) = true := by
 rw [Option.getD_some, ht]; exact decide_eq_true ⟨Int.le_refl _, h0, hn, rfl⟩
def oName : Orc := Orc.alt 0 (Orc.alt 1 (Orc.s Orc.z (Orc.s Orc.z (Orc.s Orc.z (Orc.s (Orc.t Orc.z) (Orc.s (Orc.t Orc.z) (Orc.s Orc.z Orc.z)))))))
theorem gName_ok (xs : List Int) (at_ p at1 w at2 : Int) (t : ByteArray) (h0 : 0 ≤ p) (h1 : p < 60) (ht : t.size = 64) : gName oName xs at_ p at1 w at2 t (nameS t w) := by
 unfold oName
 rw [gName_vc]
 unfold nameS
 refine ⟨(), ⟨trivial, .refl _, rfl⟩, p, ⟨⟨h0, h1⟩, .refl _, rfl⟩, ByteArray.empty, ⟨rfl, .refl _, rfl⟩, (), ⟨trivial, .refl _, rfl⟩, fun h => ⟨cut_ok ht 2 (by decide) (by decide), by rw [h]; exact .refl _, .rfl⟩, fun h => ?_⟩
 refine ⟨fun g => ⟨cut_ok ht 4 (by decide) (by decide), by rw [h, g]; exact .refl _, .rfl⟩, fun g => ?_⟩
 refine ⟨fun e => ⟨by rw [h, g, e]; exact .refl _, .rfl⟩, fun e => ?_⟩
 refine ⟨fun e3 => ⟨rfl, cut_ok ht 6 (by decide) (by decide), by rw [h, g, e, e3]; exact .refl _, .rfl⟩, fun e3 => ?_⟩
 refine ⟨fun e4 => ⟨rfl, cut_ok ht 6 (by decide) (by decide), by rw [h, g, e, e3, e4]; exact .refl _, .rfl⟩, fun e4 => ?_⟩
 exact ⟨fun e5 => ⟨cut_ok ht 6 (by decide) (by decide), by rw [h, g, e, e3, e4, e5]; exact .refl _, .rfl⟩, fun e5 => ⟨by rw [h, g, e, e3, e4, e5]; exact .refl _, .rfl⟩⟩
set_option maxRecDepth 100000 in
theorem nmAdd {X : WX} (hX : X.Sound) (hp : X.px = X0) {xs : List Int} {at_ : Int} {h : Nat → Int} {t : ByteArray} (hB : BNm xs at_ h ByteArray.empty 0 t) : (X.addLp fMName 0 (lpNm (fun s => s = ByteArray.empty) xs at_ h 0 (nOut xs at_ h t))).Sound := by
 have hP : X.px.P = Tryd.prog := by rw [hp]; rfl
 have hg : X.px.gl = gl0 := by rw [hp]; rfl
 refine hX.addLp (fn := fn fMName) (code := code fMName) (by rw [hP]; exact fnOk fMName (by kernel_rfl)) (show (fn fMName).body = some (code fMName) by kernel_rfl) (by kernel_rfl) ?_
 rw [hP, hg]
 exact Spl.ok (l := [nmSpl (fun s => s = ByteArray.empty) xs at_ h 0 t]) rfl (show ([0, 3, 4, 5, 6] : List Nat).Nodup by decide) fun s' hs' i hi => by
   obtain rfl := List.mem_singleton.1 hs'
   obtain rfl : i = ByteArray.empty := hi
   exact hB
attribute [local irreducible] runF in
set_option maxRecDepth 100000 in
theorem name_ok (xs : List Int) (at_ : Int) (hx : okXs xs) (h0 : 0 ≤ at_) (h1 : at_ ≤ 10000) : ∃ at' s, at_ ≤ at' ∧ at' ≤ at_ + 2 ∧ s.size ≤ 64 ∧ NameF xs at_ at' s := by
 obtain ⟨p, at1, a1, a2, a3, a4, hn1⟩ := next_ok xs at_ 60 hx h0 (by omega) (by decide) (by decide)
 obtain ⟨w, at2, b1, b2, b3, b4, hn2⟩ := next_ok xs at1 12 hx (by omega) (by omega) (by decide) (by decide)
 obtain ⟨t, ht, hB⟩ := nm0 xs at1 (hB p) (hB_ok a1 a2) ByteArray.empty rfl
 refine ⟨at2, nameS t w, by omega, by omega, nameS_size ht w, ?_⟩
 have hX : (XH.add fMNext (Sp.con [spNext xs at_ 60 at1 p, spNext xs at1 12 at2 w])).Sound := XH_ok.add (conOk2 (fun _ _ => hn1) (fun _ _ => hn2))
 exact fn_ok (d := 10) ((nmAdd hX rfl hB).ask [fMName]) (f := fMName) (fn := fn fMName) (code := code fMName) (fnOk fMName (by kernel_rfl)) (show (fn fMName).body = some (code fMName) by kernel_rfl) (by kernel_rfl) (gName_ok xs at_ p at1 w at2 t a1 a2 ht)
theorem szL (l : List UInt8) : ByteArray.size ⟨⟨l⟩⟩ = l.length := rfl
theorem getS (l : List Value) (n m : Nat) (h : (strsOf l).all (fun x => decide (x.size ≤ m)) = true) : ((strsOf l).getD n ByteArray.empty).size ≤ m := by
 rw [List.all_eq_true] at h
 rw [List.getD_eq_getElem?_getD]
 cases hc : (strsOf l)[n]? with
 | none => exact Nat.zero_le _
 | some x => exact of_decide_eq_true (h x (List.mem_of_getElem? hc))
theorem andT {a b : Bool} (ha : a = true) (hb : b = true) : (a && b) = true := by rw [ha, hb]; rfl
theorem ex_go {p : Prop} (h : p := by repeat (first | refine And.intro ?_ ?_ | refine Exists.intro () ?_ | exact True.intro | exact Wks.refl _ | exact Wk.refl _ | exact SameH.rfl | exact inR_i64 (by omega) (by omega) | exact decide_eq_true (by omega) | exact decide_eq_true (by simp only [ByteArray.size_append, szL, List.length_cons, List.length_nil]; omega) | exact decide_eq_false (by omega) | exact beq_eq_false_iff_ne.2 (by omega) | exact beq_iff_eq.2 (by omega) | exact andT (decide_eq_true (by omega)) rfl | exact rfl)) : p := h
attribute [local irreducible] runF in
set_option maxRecDepth 100000 in
theorem exFn {X : WX} (hX : X.Sound) (hp : X.px = X0) {os : Orc} {xs : List Int} {at_ d at' : Int} {r : ByteArray} (g : gEx X os xs at_ d at' r) : ExprF xs at_ d at' r := by
 have hP : X.px.P = Tryd.prog := by rw [hp]; rfl
 have hg : X.px.gl = gl0 := by rw [hp]; rfl
 have := fn_ok (X := X.ask [fMExpr]) (d := 12) (hX.ask _) (f := fMExpr) (fn := fn fMExpr) (code := code fMExpr) (by show X.px.P.funcs[fMExpr]? = _; rw [hP]; exact fnOk fMExpr (by kernel_rfl)) (show (fn fMExpr).body = some (code fMExpr) by kernel_rfl) (by kernel_rfl) g
 show FOk Tryd.prog gl0 fMExpr _ _ _
 rw [← hg, ← hP]; exact this
theorem gLaA_ok (xs : List Int) (at_ d at1 at2 k v : Int) (k0 : 0 ≤ k) (k1 : k < 26) (v0 : 0 ≤ v) (v1 : v < 3) (hd : d > 3) (hk : k % 6 = 0) : ∃ r, ByteArray.size r ≤ 64 ∧ gLaA ogLaA xs at_ d at1 at2 k v r := by
 have hV := getS [Value.string { data := { toList := [(97 : UInt8), (108 : UInt8), (108 : UInt8), (40 : UInt8), (41 : UInt8)] } }, Value.string { data := { toList := [(109 : UInt8), (97 : UInt8), (115 : UInt8), (116 : UInt8), (101 : UInt8), (114 : UInt8), (40 : UInt8), (41 : UInt8)] } }, Value.string { data := { toList := [(110 : UInt8), (111 : UInt8), (110 : UInt8), (101 : UInt8), (40 : UInt8), (41 : UInt8)] } }] (Int.toNat v) 16 rfl
 have tm : k.tmod 6 = k % 6 := Int.tmod_eq_emod_of_nonneg k0
 refine ⟨_, Nat.le_trans hV (by decide), ?_⟩
 rw [gLaA_vc, tm]
 exact ex_go
theorem gLnA_ok (xs : List Int) (at_ d at1 at2 k : Int) (s : ByteArray) (k0 : 0 ≤ k) (k1 : k < 26) (hd : d > 3) (hk : k % 6 ≠ 0) : gLnA ogLnA xs at_ d at1 at2 k s := by
 have tm : k.tmod 6 = k % 6 := Int.tmod_eq_emod_of_nonneg k0
 rw [gLnA_vc, tm]
 exact ex_go
theorem gLaB_ok (xs : List Int) (at_ d at1 at2 k v : Int) (k0 : 0 ≤ k) (k1 : k < 26) (v0 : 0 ≤ v) (v1 : v < 3) (hd : d ≤ 3) (ha : at1 > 20) (hk : k % 6 = 0) : ∃ r, ByteArray.size r ≤ 64 ∧ gLaB ogLaB xs at_ d at1 at2 k v r := by
 have hV := getS [Value.string { data := { toList := [(97 : UInt8), (108 : UInt8), (108 : UInt8), (40 : UInt8), (41 : UInt8)] } }, Value.string { data := { toList := [(109 : UInt8), (97 : UInt8), (115 : UInt8), (116 : UInt8), (101 : UInt8), (114 : UInt8), (40 : UInt8), (41 : UInt8)] } }, Value.string { data := { toList := [(110 : UInt8), (111 : UInt8), (110 : UInt8), (101 : UInt8), (40 : UInt8), (41 : UInt8)] } }] (Int.toNat v) 16 rfl
 have tm : k.tmod 6 = k % 6 := Int.tmod_eq_emod_of_nonneg k0
 refine ⟨_, Nat.le_trans hV (by decide), ?_⟩
 rw [gLaB_vc, tm]
 exact ex_go
theorem gLnB_ok (xs : List Int) (at_ d at1 at2 k : Int) (s : ByteArray) (k0 : 0 ≤ k) (k1 : k < 26) (hd : d ≤ 3) (ha : at1 > 20) (hk : k % 6 ≠ 0) : gLnB ogLnB xs at_ d at1 at2 k s := by
 have tm : k.tmod 6 = k % 6 := Int.tmod_eq_emod_of_nonneg k0
 rw [gLnB_vc, tm]
 exact ex_go
theorem gLaC_ok (xs : List Int) (at_ d at1 at2 k v : Int) (k0 : 0 ≤ k) (k1 : k < 26) (v0 : 0 ≤ v) (v1 : v < 3) (hd : d ≤ 3) (ha : at1 ≤ 20) (hk : k = 20) : ∃ r, ByteArray.size r ≤ 64 ∧ gLaC ogLaC xs at_ d at1 at2 k v r := by
 have hV := getS [Value.string { data := { toList := [(97 : UInt8), (108 : UInt8), (108 : UInt8), (40 : UInt8), (41 : UInt8)] } }, Value.string { data := { toList := [(109 : UInt8), (97 : UInt8), (115 : UInt8), (116 : UInt8), (101 : UInt8), (114 : UInt8), (40 : UInt8), (41 : UInt8)] } }, Value.string { data := { toList := [(110 : UInt8), (111 : UInt8), (110 : UInt8), (101 : UInt8), (40 : UInt8), (41 : UInt8)] } }] (Int.toNat v) 16 rfl
 refine ⟨_, Nat.le_trans hV (by decide), ?_⟩
 rw [gLaC_vc]
 exact ex_go
theorem gLnC_ok (xs : List Int) (at_ d at1 at2 k : Int) (s : ByteArray) (k0 : 0 ≤ k) (k1 : k < 26) (hd : d ≤ 3) (ha : at1 ≤ 20) (hk : k > 20) : gLnC ogLnC xs at_ d at1 at2 k s := by
 rw [gLnC_vc]
 exact ex_go
theorem gE0_ok (xs : List Int) (at_ d at1 at2 at3 at4 v : Int) (a b : ByteArray) (T : Nat) (hT : T ≤ 2000) (ha : a.size ≤ T) (hb : b.size ≤ T) (v0 : 0 ≤ v) (v1 : v < 3) (d0 : 0 ≤ d) (d3 : d ≤ 3) (h1 : at1 ≤ 20) : ∃ r, ByteArray.size r ≤ 2 * T + 20 ∧ gE0 ogE0 xs at_ d at1 at2 at3 at4 v a b r := by
 have hV := getS [Value.string { data := { toList := [(32 : UInt8), (111 : UInt8), (114 : UInt8), (32 : UInt8)] } }, Value.string { data := { toList := [(43 : UInt8)] } }, Value.string { data := { toList := [(32 : UInt8), (124 : UInt8), (32 : UInt8)] } }] (Int.toNat v) 7 rfl
 apply Exists.intro
 refine And.intro ?sz ?go
 case go =>
  rw [gE0_vc]
  exact ex_go
 case sz =>
  simp only [ByteArray.size_append, szL, List.length_cons, List.length_nil]
  omega
theorem gE1_ok (xs : List Int) (at_ d at1 at2 at3 at4 v : Int) (a b : ByteArray) (T : Nat) (hT : T ≤ 2000) (ha : a.size ≤ T) (hb : b.size ≤ T) (v0 : 0 ≤ v) (v1 : v < 3) (d0 : 0 ≤ d) (d3 : d ≤ 3) (h1 : at1 ≤ 20) : ∃ r, ByteArray.size r ≤ 2 * T + 20 ∧ gE1 ogE1 xs at_ d at1 at2 at3 at4 v a b r := by
 have hV := getS [Value.string { data := { toList := [(32 : UInt8), (45 : UInt8), (32 : UInt8)] } }, Value.string { data := { toList := [(45 : UInt8)] } }, Value.string { data := { toList := [(32 : UInt8), (109 : UInt8), (105 : UInt8), (110 : UInt8), (117 : UInt8), (115 : UInt8), (32 : UInt8)] } }] (Int.toNat v) 7 rfl
 apply Exists.intro
 refine And.intro ?sz ?go
 case go =>
  rw [gE1_vc]
  exact ex_go
 case sz =>
  simp only [ByteArray.size_append, szL, List.length_cons, List.length_nil]
  omega
theorem gE2_ok (xs : List Int) (at_ d at1 at2 at3 at4 v : Int) (a b : ByteArray) (T : Nat) (hT : T ≤ 2000) (ha : a.size ≤ T) (hb : b.size ≤ T) (v0 : 0 ≤ v) (v1 : v < 2) (d0 : 0 ≤ d) (d3 : d ≤ 3) (h1 : at1 ≤ 20) : ∃ r, ByteArray.size r ≤ 2 * T + 20 ∧ gE2 ogE2 xs at_ d at1 at2 at3 at4 v a b r := by
 have hV := getS [Value.string { data := { toList := [(32 : UInt8), (97 : UInt8), (110 : UInt8), (100 : UInt8), (32 : UInt8)] } }, Value.string { data := { toList := [(38 : UInt8)] } }] (Int.toNat v) 7 rfl
 apply Exists.intro
 refine And.intro ?sz ?go
 case go =>
  rw [gE2_vc]
  exact ex_go
 case sz =>
  simp only [ByteArray.size_append, szL, List.length_cons, List.length_nil]
  omega
theorem gE3_ok (xs : List Int) (at_ d at1 at2 at3 at4 v : Int) (a b : ByteArray) (T : Nat) (hT : T ≤ 2000) (ha : a.size ≤ T) (hb : b.size ≤ T) (v0 : 0 ≤ v) (v1 : v < 2) (d0 : 0 ≤ d) (d3 : d ≤ 3) (h1 : at1 ≤ 20) : ∃ r, ByteArray.size r ≤ 2 * T + 20 ∧ gE3 ogE3 xs at_ d at1 at2 at3 at4 v a b r := by
 have hV := getS [Value.string { data := { toList := [(32 : UInt8), (97 : UInt8), (110 : UInt8), (100 : UInt8), (32 : UInt8)] } }, Value.string { data := { toList := [(38 : UInt8)] } }] (Int.toNat v) 7 rfl
 apply Exists.intro
 refine And.intro ?sz ?go
 case go =>
  rw [gE3_vc]
  exact ex_go
 case sz =>
  simp only [ByteArray.size_append, szL, List.length_cons, List.length_nil]
  omega
theorem gE4_ok (xs : List Int) (at_ d at1 at2 at3 v : Int) (a : ByteArray) (T : Nat) (hT : T ≤ 2000) (ha : a.size ≤ T) (v0 : 0 ≤ v) (v1 : v < 2) (d0 : 0 ≤ d) (d3 : d ≤ 3) (h1 : at1 ≤ 20) : ∃ r, ByteArray.size r ≤ 2 * T + 20 ∧ gE4 ogE4 xs at_ d at1 at2 at3 v a r := by
 have hV := getS [Value.string { data := { toList := [(110 : UInt8), (111 : UInt8), (116 : UInt8), (32 : UInt8)] } }, Value.string { data := { toList := [(33 : UInt8)] } }] (Int.toNat v) 7 rfl
 apply Exists.intro
 refine And.intro ?sz ?go
 case go =>
  rw [gE4_vc]
  exact ex_go
 case sz =>
  simp only [ByteArray.size_append, szL, List.length_cons, List.length_nil]
  omega
theorem gE5_ok (xs : List Int) (at_ d at1 at2 : Int) (a : ByteArray) (T : Nat) (hT : T ≤ 2000) (ha : a.size ≤ T) (d0 : 0 ≤ d) (d3 : d ≤ 3) (h1 : at1 ≤ 20) : ∃ r, ByteArray.size r ≤ 2 * T + 20 ∧ gE5 ogE5 xs at_ d at1 at2 a r := by
 apply Exists.intro
 refine And.intro ?sz ?go
 case go =>
  rw [gE5_vc]
  exact ex_go
 case sz =>
  simp only [ByteArray.size_append, szL, List.length_cons, List.length_nil]
  omega
theorem gE6_ok (xs : List Int) (at_ d at1 at2 : Int) (a : ByteArray) (T : Nat) (hT : T ≤ 2000) (ha : a.size ≤ T) (d0 : 0 ≤ d) (d3 : d ≤ 3) (h1 : at1 ≤ 20) : ∃ r, ByteArray.size r ≤ 2 * T + 20 ∧ gE6 ogE6 xs at_ d at1 at2 a r := by
 apply Exists.intro
 refine And.intro ?sz ?go
 case go =>
  rw [gE6_vc]
  exact ex_go
 case sz =>
  simp only [ByteArray.size_append, szL, List.length_cons, List.length_nil]
  omega
theorem gE7_ok (xs : List Int) (at_ d at1 at2 : Int) (a : ByteArray) (T : Nat) (hT : T ≤ 2000) (ha : a.size ≤ T) (d0 : 0 ≤ d) (d3 : d ≤ 3) (h1 : at1 ≤ 20) : ∃ r, ByteArray.size r ≤ 2 * T + 20 ∧ gE7 ogE7 xs at_ d at1 at2 a r := by
 apply Exists.intro
 refine And.intro ?sz ?go
 case go =>
  rw [gE7_vc]
  exact ex_go
 case sz =>
  simp only [ByteArray.size_append, szL, List.length_cons, List.length_nil]
  omega
theorem gE8_ok (xs : List Int) (at_ d at1 at2 : Int) (a : ByteArray) (T : Nat) (hT : T ≤ 2000) (ha : a.size ≤ T) (d0 : 0 ≤ d) (d3 : d ≤ 3) (h1 : at1 ≤ 20) : ∃ r, ByteArray.size r ≤ 2 * T + 20 ∧ gE8 ogE8 xs at_ d at1 at2 a r := by
 apply Exists.intro
 refine And.intro ?sz ?go
 case go =>
  rw [gE8_vc]
  exact ex_go
 case sz =>
  simp only [ByteArray.size_append, szL, List.length_cons, List.length_nil]
  omega
theorem gE9_ok (xs : List Int) (at_ d at1 at2 at3 : Int) (a b : ByteArray) (T : Nat) (hT : T ≤ 2000) (ha : a.size ≤ T) (hb : b.size ≤ T) (d0 : 0 ≤ d) (d3 : d ≤ 3) (h1 : at1 ≤ 20) : ∃ r, ByteArray.size r ≤ 2 * T + 20 ∧ gE9 ogE9 xs at_ d at1 at2 at3 a b r := by
 apply Exists.intro
 refine And.intro ?sz ?go
 case go =>
  rw [gE9_vc]
  exact ex_go
 case sz =>
  simp only [ByteArray.size_append, szL, List.length_cons, List.length_nil]
  omega
theorem gE10_ok (xs : List Int) (at_ d at1 at2 at3 : Int) (a b : ByteArray) (T : Nat) (hT : T ≤ 2000) (ha : a.size ≤ T) (hb : b.size ≤ T) (d0 : 0 ≤ d) (d3 : d ≤ 3) (h1 : at1 ≤ 20) : ∃ r, ByteArray.size r ≤ 2 * T + 20 ∧ gE10 ogE10 xs at_ d at1 at2 at3 a b r := by
 apply Exists.intro
 refine And.intro ?sz ?go
 case go =>
  rw [gE10_vc]
  exact ex_go
 case sz =>
  simp only [ByteArray.size_append, szL, List.length_cons, List.length_nil]
  omega
theorem gE11_ok (xs : List Int) (at_ d at1 at2 : Int) (a : ByteArray) (T : Nat) (hT : T ≤ 2000) (ha : a.size ≤ T) (d0 : 0 ≤ d) (d3 : d ≤ 3) (h1 : at1 ≤ 20) : ∃ r, ByteArray.size r ≤ 2 * T + 20 ∧ gE11 ogE11 xs at_ d at1 at2 a r := by
 apply Exists.intro
 refine And.intro ?sz ?go
 case go =>
  rw [gE11_vc]
  exact ex_go
 case sz =>
  simp only [ByteArray.size_append, szL, List.length_cons, List.length_nil]
  omega
theorem gE12_ok (xs : List Int) (at_ d at1 at2 : Int) (a : ByteArray) (T : Nat) (hT : T ≤ 2000) (ha : a.size ≤ T) (d0 : 0 ≤ d) (d3 : d ≤ 3) (h1 : at1 ≤ 20) : ∃ r, ByteArray.size r ≤ 2 * T + 20 ∧ gE12 ogE12 xs at_ d at1 at2 a r := by
 apply Exists.intro
 refine And.intro ?sz ?go
 case go =>
  rw [gE12_vc]
  exact ex_go
 case sz =>
  simp only [ByteArray.size_append, szL, List.length_cons, List.length_nil]
  omega
theorem gE13_ok (xs : List Int) (at_ d at1 at2 : Int) (a : ByteArray) (T : Nat) (hT : T ≤ 2000) (ha : a.size ≤ T) (d0 : 0 ≤ d) (d3 : d ≤ 3) (h1 : at1 ≤ 20) : ∃ r, ByteArray.size r ≤ 2 * T + 20 ∧ gE13 ogE13 xs at_ d at1 at2 a r := by
 apply Exists.intro
 refine And.intro ?sz ?go
 case go =>
  rw [gE13_vc]
  exact ex_go
 case sz =>
  simp only [ByteArray.size_append, szL, List.length_cons, List.length_nil]
  omega
theorem gE14_ok (xs : List Int) (at_ d at1 at2 : Int) (a : ByteArray) (T : Nat) (hT : T ≤ 2000) (ha : a.size ≤ T) (d0 : 0 ≤ d) (d3 : d ≤ 3) (h1 : at1 ≤ 20) : ∃ r, ByteArray.size r ≤ 2 * T + 20 ∧ gE14 ogE14 xs at_ d at1 at2 a r := by
 apply Exists.intro
 refine And.intro ?sz ?go
 case go =>
  rw [gE14_vc]
  exact ex_go
 case sz =>
  simp only [ByteArray.size_append, szL, List.length_cons, List.length_nil]
  omega
theorem gE15_ok (xs : List Int) (at_ d at1 at2 : Int) (a : ByteArray) (T : Nat) (hT : T ≤ 2000) (ha : a.size ≤ T) (d0 : 0 ≤ d) (d3 : d ≤ 3) (h1 : at1 ≤ 20) : ∃ r, ByteArray.size r ≤ 2 * T + 20 ∧ gE15 ogE15 xs at_ d at1 at2 a r := by
 apply Exists.intro
 refine And.intro ?sz ?go
 case go =>
  rw [gE15_vc]
  exact ex_go
 case sz =>
  simp only [ByteArray.size_append, szL, List.length_cons, List.length_nil]
  omega
theorem gE16_ok (xs : List Int) (at_ d at1 at2 : Int) (a : ByteArray) (T : Nat) (hT : T ≤ 2000) (ha : a.size ≤ T) (d0 : 0 ≤ d) (d3 : d ≤ 3) (h1 : at1 ≤ 20) : ∃ r, ByteArray.size r ≤ 2 * T + 20 ∧ gE16 ogE16 xs at_ d at1 at2 a r := by
 apply Exists.intro
 refine And.intro ?sz ?go
 case go =>
  rw [gE16_vc]
  exact ex_go
 case sz =>
  simp only [ByteArray.size_append, szL, List.length_cons, List.length_nil]
  omega
theorem gE17_ok (xs : List Int) (at_ d at1 at2 : Int) (a : ByteArray) (T : Nat) (hT : T ≤ 2000) (ha : a.size ≤ T) (d0 : 0 ≤ d) (d3 : d ≤ 3) (h1 : at1 ≤ 20) : ∃ r, ByteArray.size r ≤ 2 * T + 20 ∧ gE17 ogE17 xs at_ d at1 at2 a r := by
 apply Exists.intro
 refine And.intro ?sz ?go
 case go =>
  rw [gE17_vc]
  exact ex_go
 case sz =>
  simp only [ByteArray.size_append, szL, List.length_cons, List.length_nil]
  omega
theorem gE18_ok (xs : List Int) (at_ d at1 at2 at3 at4 v w : Int) (a : ByteArray) (T : Nat) (hT : T ≤ 2000) (ha : a.size ≤ T) (v0 : 0 ≤ v) (v1 : v < 3) (w0 : 0 ≤ w) (w1 : w < 4) (d0 : 0 ≤ d) (d3 : d ≤ 3) (h1 : at1 ≤ 20) : ∃ r, ByteArray.size r ≤ 2 * T + 20 ∧ gE18 ogE18 xs at_ d at1 at2 at3 at4 v w a r := by
 have hV := getS [Value.string wFirst, Value.string wLast, Value.string wLimit] (Int.toNat v) 7 rfl
 have hW := getS [Value.string { data := { toList := [(48 : UInt8)] } }, Value.string { data := { toList := [(49 : UInt8)] } }, Value.string { data := { toList := [(51 : UInt8)] } }, Value.string { data := { toList := [(48 : UInt8), (48 : UInt8), (55 : UInt8)] } }] (Int.toNat w) 3 rfl
 apply Exists.intro
 refine And.intro ?sz ?go
 case go =>
  rw [gE18_vc]
  exact ex_go
 case sz =>
  simp only [ByteArray.size_append, szL, List.length_cons, List.length_nil]
  omega
theorem gE19_ok (xs : List Int) (at_ d at1 at2 : Int) (a : ByteArray) (T : Nat) (hT : T ≤ 2000) (ha : a.size ≤ T) (d0 : 0 ≤ d) (d3 : d ≤ 3) (h1 : at1 ≤ 20) : ∃ r, ByteArray.size r ≤ 2 * T + 20 ∧ gE19 ogE19 xs at_ d at1 at2 a r := by
 apply Exists.intro
 refine And.intro ?sz ?go
 case go =>
  rw [gE19_vc]
  exact ex_go
 case sz =>
  simp only [ByteArray.size_append, szL, List.length_cons, List.length_nil]
  omega
end
end Go.Proofs.YtpofhijgccocpaaDoor
end
section
namespace Go.Proofs.YtpofhijgccocpaaDoor
open Go.AS Go.TP
noncomputable section
noncomputable def X0T : PX := { X0 with own := fun f d => Nat.beq f fText || Nat.beq f fParse || (Nat.beq f fPSecond && Nat.beq d 4) }
theorem sound0T : X0T.Sound := by
 obtain ⟨a, b, c⟩ := sound0
 exact ⟨a, b, c⟩
noncomputable def XT : WX := WX.base X0T
theorem XT_ok : XT.Sound := .base sound0T
abbrev ExOk (xs : List Int) (d : Int) (T : Nat) (C : Int) : Prop := ∀ at_, 0 ≤ at_ → at_ + C ≤ 1000 → ∃ at' s, at_ ≤ at' ∧ at' ≤ at_ + C ∧ s.size ≤ T ∧ ExprF xs at_ d at' s
theorem XLa_ok {xs : List Int} {at_ at1 at2 k v : Int} (hn : NextF xs at_ 26 at1 k) (hv : NextF xs at1 3 at2 v) : (XLa xs at_ at1 at2 k v).Sound := XH_ok.add (conOk2 (s := spNext xs at_ 26 at1 k) (t := spNext xs at1 3 at2 v) (fun _ _ => hn) (fun _ _ => hv))
theorem XLn_ok {xs : List Int} {at_ at1 at2 k : Int} {s : ByteArray} (hn : NextF xs at_ 26 at1 k) (hE : NameF xs at1 at2 s) : (XLn xs at_ at1 at2 k s).Sound := (XH_ok.add (conOk1 (s := spNext xs at_ 26 at1 k) (fun _ _ => hn))).add (conOk1 (s := spNm xs at1 at2 s) (fun _ _ => hE))
theorem X1a_ok {xs : List Int} {at_ d at1 at2 k : Int} {a : ByteArray} (hn : NextF xs at_ 26 at1 k) (hA : ExprF xs at1 (d + 1) at2 a) : (X1a xs at_ d at1 at2 k a).Sound := (XH_ok.add (conOk1 (s := spNext xs at_ 26 at1 k) (fun _ _ => hn))).add (conOk1 (s := spE xs at1 (d + 1) at2 a) (fun _ _ => hA))
theorem X1b_ok {xs : List Int} {at_ d at1 at2 at3 k n v : Int} {a : ByteArray} (hn : NextF xs at_ 26 at1 k) (hv : NextF xs at2 n at3 v) (hA : ExprF xs at1 (d + 1) at2 a) : (X1b xs at_ d at1 at2 at3 k n v a).Sound := (XH_ok.add (conOk2 (s := spNext xs at_ 26 at1 k) (t := spNext xs at2 n at3 v) (fun _ _ => hn) (fun _ _ => hv))).add (conOk1 (s := spE xs at1 (d + 1) at2 a) (fun _ _ => hA))
theorem X1c_ok {xs : List Int} {at_ d at1 at2 at3 at4 k v w : Int} {a : ByteArray} (hn : NextF xs at_ 26 at1 k) (hv : NextF xs at2 3 at3 v) (hw : NextF xs at3 4 at4 w) (hA : ExprF xs at1 (d + 1) at2 a) : (X1c xs at_ d at1 at2 at3 at4 k v w a).Sound := (XH_ok.add (conOk3 (s := spNext xs at_ 26 at1 k) (t := spNext xs at2 3 at3 v) (u := spNext xs at3 4 at4 w) (fun _ _ => hn) (fun _ _ => hv) (fun _ _ => hw))).add (conOk1 (s := spE xs at1 (d + 1) at2 a) (fun _ _ => hA))
theorem X2a_ok {xs : List Int} {at_ d at1 at2 at3 k : Int} {a b : ByteArray} (hn : NextF xs at_ 26 at1 k) (hA : ExprF xs at1 (d + 1) at2 a) (hB : ExprF xs at2 (d + 1) at3 b) : (X2a xs at_ d at1 at2 at3 k a b).Sound := (XH_ok.add (conOk1 (s := spNext xs at_ 26 at1 k) (fun _ _ => hn))).add (conOk2 (s := spE xs at1 (d + 1) at2 a) (t := spE xs at2 (d + 1) at3 b) (fun _ _ => hA) (fun _ _ => hB))
theorem X2b_ok {xs : List Int} {at_ d at1 at2 at3 at4 k n v : Int} {a b : ByteArray} (hn : NextF xs at_ 26 at1 k) (hv : NextF xs at2 n at3 v) (hA : ExprF xs at1 (d + 1) at2 a) (hB : ExprF xs at3 (d + 1) at4 b) : (X2b xs at_ d at1 at2 at3 at4 k n v a b).Sound := (XH_ok.add (conOk2 (s := spNext xs at_ 26 at1 k) (t := spNext xs at2 n at3 v) (fun _ _ => hn) (fun _ _ => hv))).add (conOk2 (s := spE xs at1 (d + 1) at2 a) (t := spE xs at3 (d + 1) at4 b) (fun _ _ => hA) (fun _ _ => hB))
attribute [local irreducible] runF in
set_option maxRecDepth 100000 in
theorem exStep (xs : List Int) (hx : okXs xs) (d : Int) (T : Nat) (C : Int) (hT : T ≤ 1000) (hT0 : 64 ≤ 2 * T + 20) (C0 : 0 ≤ C) (d0 : 0 ≤ d) (d3 : d ≤ 4) (ih : d ≤ 3 → ExOk xs (d + 1) T C) : ExOk xs d (2 * T + 20) (2 * C + 4) := by
 intro at_ h0 h1
 obtain ⟨k, at1, k0, k1, a1, a2, hn⟩ := next_ok xs at_ 26 hx h0 (by omega) (by decide) (by decide)
 have leafA : (∀ v at2, 0 ≤ v → v < 3 → NextF xs at1 3 at2 v → ∃ s, s.size ≤ 2 * T + 20 ∧ ExprF xs at_ d at2 s) → ∃ at' s, at_ ≤ at' ∧ at' ≤ at_ + (2 * C + 4) ∧ s.size ≤ 2 * T + 20 ∧ ExprF xs at_ d at' s := by
  intro h
  obtain ⟨v, at2, v0, v1, b1, b2, hv⟩ := next_ok xs at1 3 hx (by omega) (by omega) (by decide) (by decide)
  obtain ⟨s, hs, hE⟩ := h v at2 v0 v1 hv
  exact ⟨at2, s, by omega, by omega, hs, hE⟩
 have leafN : (∀ s at2, NameF xs at1 at2 s → ExprF xs at_ d at2 s) → ∃ at' s, at_ ≤ at' ∧ at' ≤ at_ + (2 * C + 4) ∧ s.size ≤ 2 * T + 20 ∧ ExprF xs at_ d at' s := by
  intro h
  obtain ⟨at2, s, b1, b2, hs, hE⟩ := name_ok xs at1 hx (by omega) (by omega)
  exact ⟨at2, s, by omega, by omega, by omega, h s at2 hE⟩
 by_cases hd : d > 3
 · by_cases hk : k % 6 = 0
   · refine leafA fun v at2 v0 v1 hv => ?_
     obtain ⟨r, hr, g⟩ := gLaA_ok xs at_ d at1 at2 k v k0 k1 v0 v1 hd hk
     exact ⟨r, by omega, exFn (X := XLa xs at_ at1 at2 k v) (XLa_ok hn hv) rfl g⟩
   · refine leafN fun s at2 hE => ?_
     exact exFn (X := XLn xs at_ at1 at2 k s) (XLn_ok hn hE) rfl (gLnA_ok xs at_ d at1 at2 k s k0 k1 hd hk)
 have hd : d ≤ 3 := by omega
 by_cases ha : at1 > 20
 · by_cases hk : k % 6 = 0
   · refine leafA fun v at2 v0 v1 hv => ?_
     obtain ⟨r, hr, g⟩ := gLaB_ok xs at_ d at1 at2 k v k0 k1 v0 v1 hd ha hk
     exact ⟨r, by omega, exFn (X := XLa xs at_ at1 at2 k v) (XLa_ok hn hv) rfl g⟩
   · refine leafN fun s at2 hE => ?_
     exact exFn (X := XLn xs at_ at1 at2 k s) (XLn_ok hn hE) rfl (gLnB_ok xs at_ d at1 at2 k s k0 k1 hd ha hk)
 have ha : at1 ≤ 20 := by omega
 by_cases hk : k = 20
 · refine leafA fun v at2 v0 v1 hv => ?_
   obtain ⟨r, hr, g⟩ := gLaC_ok xs at_ d at1 at2 k v k0 k1 v0 v1 hd ha hk
   exact ⟨r, by omega, exFn (X := XLa xs at_ at1 at2 k v) (XLa_ok hn hv) rfl g⟩
 by_cases hk : k > 20
 · refine leafN fun s at2 hE => ?_
   exact exFn (X := XLn xs at_ at1 at2 k s) (XLn_ok hn hE) rfl (gLnC_ok xs at_ d at1 at2 k s k0 k1 hd ha hk)
 have ih := ih hd
 obtain ⟨at2, a, b1, b2, ha2, hA⟩ := ih at1 (by omega) (by omega)
 have one : (∃ r, ByteArray.size r ≤ 2 * T + 20 ∧ ExprF xs at_ d at2 r) → ∃ at' s, at_ ≤ at' ∧ at' ≤ at_ + (2 * C + 4) ∧ s.size ≤ 2 * T + 20 ∧ ExprF xs at_ d at' s := fun ⟨r, hr, hE⟩ => ⟨at2, r, by omega, by omega, hr, hE⟩
 have hk : k = 0 ∨ k = 1 ∨ k = 2 ∨ k = 3 ∨ k = 4 ∨ k = 5 ∨ k = 6 ∨ k = 7 ∨ k = 8 ∨ k = 9 ∨ k = 10 ∨ k = 11 ∨ k = 12 ∨ k = 13 ∨ k = 14 ∨ k = 15 ∨ k = 16 ∨ k = 17 ∨ k = 18 ∨ k = 19 := by omega
 rcases hk with rfl | rfl | rfl | rfl | rfl | rfl | rfl | rfl | rfl | rfl | rfl | rfl | rfl | rfl | rfl | rfl | rfl | rfl | rfl | rfl
 · obtain ⟨v, at3, v0, v1, c1, c2, hv⟩ := next_ok xs at2 3 hx (by omega) (by omega) (by decide) (by decide)
   obtain ⟨at4, b, e1, e2, hb2, hB⟩ := ih at3 (by omega) (by omega)
   obtain ⟨r, hr, g⟩ := gE0_ok xs at_ d at1 at2 at3 at4 v a b T (by omega) ha2 hb2 v0 v1 d0 hd ha
   exact ⟨at4, r, by omega, by omega, hr, exFn (X := X2b xs at_ d at1 at2 at3 at4 0 3 v a b) (X2b_ok hn hv hA hB) rfl g⟩
 · obtain ⟨v, at3, v0, v1, c1, c2, hv⟩ := next_ok xs at2 3 hx (by omega) (by omega) (by decide) (by decide)
   obtain ⟨at4, b, e1, e2, hb2, hB⟩ := ih at3 (by omega) (by omega)
   obtain ⟨r, hr, g⟩ := gE1_ok xs at_ d at1 at2 at3 at4 v a b T (by omega) ha2 hb2 v0 v1 d0 hd ha
   exact ⟨at4, r, by omega, by omega, hr, exFn (X := X2b xs at_ d at1 at2 at3 at4 1 3 v a b) (X2b_ok hn hv hA hB) rfl g⟩
 · obtain ⟨v, at3, v0, v1, c1, c2, hv⟩ := next_ok xs at2 2 hx (by omega) (by omega) (by decide) (by decide)
   obtain ⟨at4, b, e1, e2, hb2, hB⟩ := ih at3 (by omega) (by omega)
   obtain ⟨r, hr, g⟩ := gE2_ok xs at_ d at1 at2 at3 at4 v a b T (by omega) ha2 hb2 v0 v1 d0 hd ha
   exact ⟨at4, r, by omega, by omega, hr, exFn (X := X2b xs at_ d at1 at2 at3 at4 2 2 v a b) (X2b_ok hn hv hA hB) rfl g⟩
 · obtain ⟨v, at3, v0, v1, c1, c2, hv⟩ := next_ok xs at2 2 hx (by omega) (by omega) (by decide) (by decide)
   obtain ⟨at4, b, e1, e2, hb2, hB⟩ := ih at3 (by omega) (by omega)
   obtain ⟨r, hr, g⟩ := gE3_ok xs at_ d at1 at2 at3 at4 v a b T (by omega) ha2 hb2 v0 v1 d0 hd ha
   exact ⟨at4, r, by omega, by omega, hr, exFn (X := X2b xs at_ d at1 at2 at3 at4 3 2 v a b) (X2b_ok hn hv hA hB) rfl g⟩
 · obtain ⟨v, at3, v0, v1, c1, c2, hv⟩ := next_ok xs at2 2 hx (by omega) (by omega) (by decide) (by decide)
   obtain ⟨r, hr, g⟩ := gE4_ok xs at_ d at1 at2 at3 v a T (by omega) ha2 v0 v1 d0 hd ha
   exact ⟨at3, r, by omega, by omega, hr, exFn (X := X1b xs at_ d at1 at2 at3 4 2 v a) (X1b_ok hn hv hA) rfl g⟩
 · obtain ⟨r, hr, g⟩ := gE5_ok xs at_ d at1 at2 a T (by omega) ha2 d0 hd ha
   exact one ⟨r, hr, exFn (X := X1a xs at_ d at1 at2 5 a) (X1a_ok hn hA) rfl g⟩
 · obtain ⟨r, hr, g⟩ := gE6_ok xs at_ d at1 at2 a T (by omega) ha2 d0 hd ha
   exact one ⟨r, hr, exFn (X := X1a xs at_ d at1 at2 6 a) (X1a_ok hn hA) rfl g⟩
 · obtain ⟨r, hr, g⟩ := gE7_ok xs at_ d at1 at2 a T (by omega) ha2 d0 hd ha
   exact one ⟨r, hr, exFn (X := X1a xs at_ d at1 at2 7 a) (X1a_ok hn hA) rfl g⟩
 · obtain ⟨r, hr, g⟩ := gE8_ok xs at_ d at1 at2 a T (by omega) ha2 d0 hd ha
   exact one ⟨r, hr, exFn (X := X1a xs at_ d at1 at2 8 a) (X1a_ok hn hA) rfl g⟩
 · obtain ⟨at3, b, e1, e2, hb2, hB⟩ := ih at2 (by omega) (by omega)
   obtain ⟨r, hr, g⟩ := gE9_ok xs at_ d at1 at2 at3 a b T (by omega) ha2 hb2 d0 hd ha
   exact ⟨at3, r, by omega, by omega, hr, exFn (X := X2a xs at_ d at1 at2 at3 9 a b) (X2a_ok hn hA hB) rfl g⟩
 · obtain ⟨at3, b, e1, e2, hb2, hB⟩ := ih at2 (by omega) (by omega)
   obtain ⟨r, hr, g⟩ := gE10_ok xs at_ d at1 at2 at3 a b T (by omega) ha2 hb2 d0 hd ha
   exact ⟨at3, r, by omega, by omega, hr, exFn (X := X2a xs at_ d at1 at2 at3 10 a b) (X2a_ok hn hA hB) rfl g⟩
 · obtain ⟨r, hr, g⟩ := gE11_ok xs at_ d at1 at2 a T (by omega) ha2 d0 hd ha
   exact one ⟨r, hr, exFn (X := X1a xs at_ d at1 at2 11 a) (X1a_ok hn hA) rfl g⟩
 · obtain ⟨r, hr, g⟩ := gE12_ok xs at_ d at1 at2 a T (by omega) ha2 d0 hd ha
   exact one ⟨r, hr, exFn (X := X1a xs at_ d at1 at2 12 a) (X1a_ok hn hA) rfl g⟩
 · obtain ⟨r, hr, g⟩ := gE13_ok xs at_ d at1 at2 a T (by omega) ha2 d0 hd ha
   exact one ⟨r, hr, exFn (X := X1a xs at_ d at1 at2 13 a) (X1a_ok hn hA) rfl g⟩
 · obtain ⟨r, hr, g⟩ := gE14_ok xs at_ d at1 at2 a T (by omega) ha2 d0 hd ha
   exact one ⟨r, hr, exFn (X := X1a xs at_ d at1 at2 14 a) (X1a_ok hn hA) rfl g⟩
 · obtain ⟨r, hr, g⟩ := gE15_ok xs at_ d at1 at2 a T (by omega) ha2 d0 hd ha
   exact one ⟨r, hr, exFn (X := X1a xs at_ d at1 at2 15 a) (X1a_ok hn hA) rfl g⟩
 · obtain ⟨r, hr, g⟩ := gE16_ok xs at_ d at1 at2 a T (by omega) ha2 d0 hd ha
   exact one ⟨r, hr, exFn (X := X1a xs at_ d at1 at2 16 a) (X1a_ok hn hA) rfl g⟩
 · obtain ⟨r, hr, g⟩ := gE17_ok xs at_ d at1 at2 a T (by omega) ha2 d0 hd ha
   exact one ⟨r, hr, exFn (X := X1a xs at_ d at1 at2 17 a) (X1a_ok hn hA) rfl g⟩
 · obtain ⟨v, at3, v0, v1, c1, c2, hv⟩ := next_ok xs at2 3 hx (by omega) (by omega) (by decide) (by decide)
   obtain ⟨w, at4, w0, w1, e1, e2, hw⟩ := next_ok xs at3 4 hx (by omega) (by omega) (by decide) (by decide)
   obtain ⟨r, hr, g⟩ := gE18_ok xs at_ d at1 at2 at3 at4 v w a T (by omega) ha2 v0 v1 w0 w1 d0 hd ha
   exact ⟨at4, r, by omega, by omega, hr, exFn (X := X1c xs at_ d at1 at2 at3 at4 18 v w a) (X1c_ok hn hv hw hA) rfl g⟩
 · obtain ⟨r, hr, g⟩ := gE19_ok xs at_ d at1 at2 a T (by omega) ha2 d0 hd ha
   exact one ⟨r, hr, exFn (X := X1a xs at_ d at1 at2 19 a) (X1a_ok hn hA) rfl g⟩
theorem expr4 (xs : List Int) (hx : okXs xs) : ExOk xs 4 64 4 := exStep xs hx 4 22 0 (by decide) (by decide) (by decide) (by decide) (by decide) (fun h => absurd h (by decide))
theorem expr3 (xs : List Int) (hx : okXs xs) : ExOk xs 3 148 12 := exStep xs hx 3 64 4 (by decide) (by decide) (by decide) (by decide) (by decide) (fun _ => expr4 xs hx)
theorem expr2 (xs : List Int) (hx : okXs xs) : ExOk xs 2 316 28 := exStep xs hx 2 148 12 (by decide) (by decide) (by decide) (by decide) (by decide) (fun _ => expr3 xs hx)
theorem expr1 (xs : List Int) (hx : okXs xs) : ExOk xs 1 652 60 := exStep xs hx 1 316 28 (by decide) (by decide) (by decide) (by decide) (by decide) (fun _ => expr2 xs hx)
theorem expr0 (xs : List Int) (hx : okXs xs) : ExOk xs 0 1324 124 := exStep xs hx 0 652 60 (by decide) (by decide) (by decide) (by decide) (by decide) (fun _ => expr1 xs hx)
def gTextT (os : Orc) (xs : List Int) (at' : Int) (r : ByteArray) : Prop := runF (XT.add fMExpr (Sp.con [spE xs 0 0 at' r])) 12 fText (fn fText) (code fText) os 0 [] [.lst false 1 (xs.map i0)] .nil ⟨s0 r, .nil, []⟩
end
end Go.Proofs.YtpofhijgccocpaaDoor
end
section
namespace Go.Proofs.YtpofhijgccocpaaDoor
open Go Go.AS Go.TP
theorem gTextT_vc (xs : List Int) (at' : Int) (r : ByteArray) : gTextT (Orc.z) xs at' r = (let z1 := [eR 1048577 [0, 0] 2 [AV.agg [AV.lst false 1 (List.map i0 xs), i0 (0 : Int)]]]; let z2 := [AV.ptr 1048577 [0, 0] 0 0, i0 (0 : Int)]; U1 z2 z1 (Wk (s0 r) (s0 r) ∧ SameH (hpL []) (hpL []))) := by kernel_rfl
end Go.Proofs.YtpofhijgccocpaaDoor
end
section
namespace Go.Proofs.YtpofhijgccocpaaDoor
open Go.AS Go.TP
noncomputable section
attribute [local irreducible] runF in
set_option maxRecDepth 100000 in
theorem text_ok (xs : List Int) (hx : okXs xs) : ∃ s, ByteArray.size s ≤ 1324 ∧ F fText [.lst false 1 (xs.map i0)] (s0 s) := by
 obtain ⟨at', s, _, _, hs, hE⟩ := expr0 xs hx 0 (by decide) (by decide)
 refine ⟨s, hs, ?_⟩
 refine fn_ok (X := XT.add fMExpr (Sp.con [spE xs 0 0 at' s])) (d := 12) (os := Orc.z) (fz := 0) (fc := []) (XT_ok.add (conOk1 (s := spE xs 0 0 at' s) (fun _ _ => hE))) (f := fText) (fn := fn fText) (code := code fText) (fnOk fText (by kernel_rfl)) (show (fn fText).body = some (code fText) by kernel_rfl) (by kernel_rfl) ?_
 show gTextT Orc.z xs at' s
 rw [gTextT_vc]
 exact ⟨(), ⟨trivial, .refl _, rfl⟩, .refl _, .rfl⟩
end
end Go.Proofs.YtpofhijgccocpaaDoor
end
section
namespace Go.Proofs.YtpofhijgccocpaaDoor
open Go.AS Go.TP
noncomputable section
mutual
def encN : Nd → AV
 | .mk k a n t ks => .agg [i0 k, i0 a, i0 n, s0 t, .lst false 5 (encL ks)]
def encL : List Nd → List AV
 | [] => []
 | n :: r => encN n :: encL r
end
def encP (n : Nd) : AV := .agg [i0 n.kind, i0 n.at_, i0 n.num, s0 n.text, .lst false 5 (encL n.kids)]
theorem encP_eq (n : Nd) : encP n = encN n := by cases n; rfl
abbrev nodeV (k a n : Int) (t : ByteArray) (ks : List AV) : AV := .agg [i0 k, i0 a, i0 n, s0 t, .lst false 5 ks]
abbrev zeroV : AV := nodeV 0 0 0 ByteArray.empty []
abbrev tokV (k a : Int) (x : ByteArray) : AV := .agg [i0 k, i0 a, s0 x]
abbrev nilE : AV := .lit .nilIface
def pArg : AV := .ptr 1048577 [0, 0] 0 0
def pHeap (ts : List AV) (d : Int) : Hp := hpL [(1048577, ⟨[0, 0], .row true 2 [.agg [.lst false 3 ts, i0 d]]⟩)]
def pOut (ts : List AV) (d : Int) (n e : AV) : Back := ⟨.tup [n, e], pHeap ts d, [1048577]⟩
def askP : List Nat := [fPExpr, fPTerm, fPPart, fPPart1, fPRanged, fPRanged1, fPAtom, fPChain, fPExpect, fPNext, fPTake, fPWithin, fPUp, fPUp1, fPSecond, fPBrack, fPBrack1, fPCall, fPCall1, fBegins, fAt, fWrong, fParse]
def gP (X : WX) (f : Nat) (os : Orc) (ts ts' : List AV) (d : Int) (n e : AV) : Prop := runF (X.ask askP) 14 f (fn f) (code f) os 0 [] [pArg] (pHeap ts d) (pOut ts' d n e)
def spP (ts ts' : List AV) (d : Int) (n e : AV) : Sp := ⟨Unit, fun _ => True, fun _ => [pArg], fun _ => pHeap ts d, fun _ => pOut ts' d n e⟩
def spForm (w : ByteArray) (v : Int) : Sp := .pure Unit (fun _ => True) (fun _ => [s0 w]) (fun _ => i0 v)
def spPre (w : ByteArray) (b : Bool) : Sp := .pure Unit (fun _ => True) (fun _ => [s0 w]) (fun _ => b0 b)
def spNum (t : AV) (n : Int) (b : Bool) : Sp := .pure Unit (fun _ => True) (fun _ => [t]) (fun _ => .tup [i0 n, b0 b])
noncomputable def XE (ts ts' : List AV) (d : Int) (n e : AV) : WX := XB.add fPExpr (Sp.con [spP ts ts' d n e])
def aBad (os : Orc) (k a : Int) (x : ByteArray) (r : List AV) (d : Int) : Prop := gP XB fPAtom os (tokV k a x :: r) (tokV k a x :: r) d zeroV (encErr 15 a)
def aDeep (os : Orc) (a : Int) (x : ByteArray) (r : List AV) : Prop := gP XB fPAtom os (tokV 2 a x :: r) r 24 zeroV (encErr 16 a)
def aOpen (os : Orc) (a : Int) (x : ByteArray) (r : List AV) (d : Int) (q : Nd) (a' : Int) (x' : ByteArray) (r' : List AV) : Prop :=
 gP (XE r (tokV 3 a' x' :: r') (d + 1) (encP q) nilE) fPAtom os (tokV 2 a x :: r) r' d (encP q) nilE
def aOpenX (os : Orc) (a : Int) (x : ByteArray) (r : List AV) (d : Int) (q : Nd) (k' a' : Int) (x' : ByteArray) (r' : List AV) : Prop :=
 gP (XE r (tokV k' a' x' :: r') (d + 1) (encP q) nilE) fPAtom os (tokV 2 a x :: r) (tokV k' a' x' :: r') d (encP q) (encErr 15 a')
def aOpenE (os : Orc) (a : Int) (x : ByteArray) (r : List AV) (d : Int) (q : Nd) (ek ea : Int) (ts' : List AV) : Prop :=
 gP (XE r ts' (d + 1) (encP q) (encErr ek ea)) fPAtom os (tokV 2 a x :: r) ts' d (encP q) (encErr ek ea)
def aName (os : Orc) (a : Int) (x : ByteArray) (k' a' : Int) (x' : ByteArray) (r : List AV) (d : Int) : Prop :=
 gP (XB.add fIsPrefix (Sp.con [spPre x true])) fPAtom os (tokV 1 a x :: tokV k' a' x' :: r) (tokV k' a' x' :: r) d (nodeV 1 a 0 x []) nilE
def aNameX (os : Orc) (a : Int) (x : ByteArray) (k' a' : Int) (x' : ByteArray) (r : List AV) (d : Int) : Prop :=
 gP (XB.add fIsPrefix (Sp.con [spPre x false])) fPAtom os (tokV 1 a x :: tokV k' a' x' :: r) (tokV k' a' x' :: r) d zeroV (encErr 15 a)
def aCall0 (os : Orc) (a : Int) (x : ByteArray) (a' : Int) (x' : ByteArray) (r : List AV) (d : Int) : Prop :=
 gP (XB.add fForm (Sp.con [spForm x 0])) fPAtom os (tokV 1 a x :: tokV 2 a' x' :: r) (tokV 2 a' x' :: r) d zeroV (encErr 15 a)
def aCallD (os : Orc) (a : Int) (x : ByteArray) (v a' : Int) (x' : ByteArray) (r : List AV) : Prop :=
 gP (XB.add fForm (Sp.con [spForm x v])) fPAtom os (tokV 1 a x :: tokV 2 a' x' :: r) r 24 zeroV (encErr 16 a')
def aCall1 (os : Orc) (a : Int) (x : ByteArray) (a' : Int) (x' : ByteArray) (c : Int) (y : ByteArray) (r : List AV) (d : Int) : Prop :=
 gP (XB.add fForm (Sp.con [spForm x 1])) fPAtom os (tokV 1 a x :: tokV 2 a' x' :: tokV 3 c y :: r) r d (nodeV 10 a 0 x []) nilE
def aCall1X (os : Orc) (a : Int) (x : ByteArray) (a' : Int) (x' : ByteArray) (kc c : Int) (y : ByteArray) (r : List AV) (d : Int) : Prop :=
 gP (XB.add fForm (Sp.con [spForm x 1])) fPAtom os (tokV 1 a x :: tokV 2 a' x' :: tokV kc c y :: r) (tokV kc c y :: r) d (nodeV 10 a 0 x []) (encErr 15 c)
def XF (x : ByteArray) (v : Int) (ts ts' : List AV) (d : Int) (n e : AV) : WX := (XE ts ts' d n e).add fForm (Sp.con [spForm x v])
def aCallE (os : Orc) (a : Int) (x : ByteArray) (v a' : Int) (x' : ByteArray) (r : List AV) (d : Int) (q : Nd) (ek ea : Int) (ts' : List AV) : Prop :=
 gP (XF x v r ts' (d + 1) (encP q) (encErr ek ea)) fPAtom os (tokV 1 a x :: tokV 2 a' x' :: r) ts' d (nodeV 10 a 0 x [encP q]) (encErr ek ea)
def aCall2 (os : Orc) (a : Int) (x : ByteArray) (a' : Int) (x' : ByteArray) (r : List AV) (d : Int) (q : Nd) (c : Int) (y : ByteArray) (r' : List AV) : Prop :=
 gP (XF x 2 r (tokV 3 c y :: r') (d + 1) (encP q) nilE) fPAtom os (tokV 1 a x :: tokV 2 a' x' :: r) r' d (nodeV 10 a 0 x [encP q]) nilE
def aCall2X (os : Orc) (a : Int) (x : ByteArray) (a' : Int) (x' : ByteArray) (r : List AV) (d : Int) (q : Nd) (kc c : Int) (y : ByteArray) (r' : List AV) : Prop :=
 gP (XF x 2 r (tokV kc c y :: r') (d + 1) (encP q) nilE) fPAtom os (tokV 1 a x :: tokV 2 a' x' :: r) (tokV kc c y :: r') d (nodeV 10 a 0 x [encP q]) (encErr 15 c)
def aCall3C (os : Orc) (a : Int) (x : ByteArray) (a' : Int) (x' : ByteArray) (r : List AV) (d : Int) (q : Nd) (kc c : Int) (y : ByteArray) (r' : List AV) : Prop :=
 gP (XF x 3 r (tokV kc c y :: r') (d + 1) (encP q) nilE) fPAtom os (tokV 1 a x :: tokV 2 a' x' :: r) (tokV kc c y :: r') d (nodeV 10 a 0 x [encP q]) (encErr 15 c)
def XFN (x : ByteArray) (ts ts' : List AV) (d : Int) (n e t : AV) (m : Int) (b : Bool) : WX := (XF x 3 ts ts' d n e).add fNumber (Sp.con [spNum t m b])
def aCall3N (os : Orc) (a : Int) (x : ByteArray) (a' : Int) (x' : ByteArray) (r : List AV) (d : Int) (q : Nd) (c : Int) (y : ByteArray) (kn an : Int) (xn : ByteArray) (m : Int) (r' : List AV) : Prop :=
 gP (XFN x r (tokV 4 c y :: tokV kn an xn :: r') (d + 1) (encP q) nilE (tokV kn an xn) m false) fPAtom os (tokV 1 a x :: tokV 2 a' x' :: r) (tokV kn an xn :: r') d (nodeV 10 a 0 x [encP q]) (encErr 15 an)
def aCall3 (os : Orc) (a : Int) (x : ByteArray) (a' : Int) (x' : ByteArray) (r : List AV) (d : Int) (q : Nd) (c : Int) (y : ByteArray) (an : Int) (xn : ByteArray) (m z : Int) (w : ByteArray) (r' : List AV) : Prop :=
 gP (XFN x r (tokV 4 c y :: tokV 1 an xn :: tokV 3 z w :: r') (d + 1) (encP q) nilE (tokV 1 an xn) m true) fPAtom os (tokV 1 a x :: tokV 2 a' x' :: r) r' d (nodeV 10 a m x [encP q]) nilE
def aCall3X (os : Orc) (a : Int) (x : ByteArray) (a' : Int) (x' : ByteArray) (r : List AV) (d : Int) (q : Nd) (c : Int) (y : ByteArray) (an : Int) (xn : ByteArray) (m kz z : Int) (w : ByteArray) (r' : List AV) : Prop :=
 gP (XFN x r (tokV 4 c y :: tokV 1 an xn :: tokV kz z w :: r') (d + 1) (encP q) nilE (tokV 1 an xn) m true) fPAtom os (tokV 1 a x :: tokV 2 a' x' :: r) (tokV kz z w :: r') d (nodeV 10 a m x [encP q]) (encErr 15 z)
end
end Go.Proofs.YtpofhijgccocpaaDoor
end
section
namespace Go.Proofs.YtpofhijgccocpaaDoor
open Go Go.AS Go.TP
noncomputable abbrev qVP10 (a' : Int) (x' : ByteArray) (r : List AV) (d : Int) := (True ∧ Wks [AV.ptr 1048577 [0, 0] 0 0] [AV.ptr 1048577 [0, 0] 0 0] ∧ hpL [eR 1048577 [0, 0] 2 [AV.agg [AV.lst false 3 (List.drop 1 (AV.agg [i0 (2 : Int), i0 a', s0 x'] :: r)), i0 (d + (1 : Int))]]] = hpL [eR 1048577 [0, 0] 2 [AV.agg [AV.lst false 3 r, i0 (d + (1 : Int))]]])
noncomputable abbrev qVP11 (a : Int) (x : ByteArray) (a' : Int) (x' : ByteArray) (r : List AV) := (decide ((0 : Int) ≤ (1 : Int) ∧ (1 : Int) ≤ (↑(List.length (AV.agg [i0 (1 : Int), i0 a, s0 x] :: AV.agg [i0 (2 : Int), i0 a', s0 x'] :: r)) : Int)) && Nat.beq 3 3)
noncomputable abbrev qVP12 (x : ByteArray) := (True ∧ Wks [s0 x] [s0 x] ∧ hpL [] = hpL [])
noncomputable abbrev qVP13 (a' : Int) (x' : ByteArray) (r : List AV) := (decide ((0 : Int) ≤ (1 : Int) ∧ (1 : Int) ≤ (↑(List.length (AV.agg [i0 (2 : Int), i0 a', s0 x'] :: r)) : Int)) && Nat.beq 3 3)
theorem aBad_vc (k a : Int) (x : ByteArray) (r : List AV) (d : Int) : aBad (Orc.f (Orc.f (Orc.f Orc.z))) k a x r d = (let z1 := (hpL [eR 1048577 [0, 0] 2 [AV.agg [AV.lst false 3 (AV.agg [i0 k, i0 a, s0 x] :: r), i0 d]]]); let z2 := AV.iface 76 (AV.ref (AV.agg [i0 a, AV.iface 59 (i0 (15 : Int))])); (k == (2 : Int)) = false ∧ (k == (1 : Int)) = false ∧ Nf (Wk (AV.tup [AV.agg [i0 (0 : Int), i0 (0 : Int), i0 (0 : Int), s0 ⟨⟨[]⟩⟩, AV.lit (Value.slice none 0 0)], z2]) (AV.tup [AV.agg [i0 (0 : Int), i0 (0 : Int), i0 (0 : Int), s0 ByteArray.empty, AV.lst false 5 []], z2]) ∧ SameH z1 z1)) := by kernel_rfl
def oaDeep : Orc := Orc.t (Orc.t (Orc.t (Orc.f Orc.z)))
theorem aDeep_vc (a : Int) (x : ByteArray) (r : List AV) : aDeep oaDeep a x r = (let z1 := AV.iface 76 (AV.ref (AV.agg [i0 a, AV.iface 59 (i0 (16 : Int))])); let z2 := (AV.agg [i0 (2 : Int), i0 a, s0 x] :: r); Yt (Yt ((decide ((0 : Int) ≤ (1 : Int) ∧ (1 : Int) ≤ (↑(List.length z2) : Int)) && true) = true ∧ Yt (Nf (Wk (AV.tup [AV.agg [i0 (0 : Int), i0 (0 : Int), i0 (0 : Int), s0 ⟨⟨[]⟩⟩, AV.lit (Value.slice none 0 0)], z1]) (AV.tup [AV.agg [i0 (0 : Int), i0 (0 : Int), i0 (0 : Int), s0 ByteArray.empty, AV.lst false 5 []], z1]) ∧ SameH (hpL [eR 1048577 [0, 0] 2 [AV.agg [AV.lst false 3 (List.drop 1 z2), i0 (24 : Int)]]]) (hpL [eR 1048577 [0, 0] 2 [AV.agg [AV.lst false 3 r, i0 (24 : Int)]]])))))) := by kernel_rfl
def oaOpen : Orc := Orc.t (Orc.t (Orc.f (Orc.f (Orc.f (Orc.t Orc.z)))))
theorem aOpen_vc (a : Int) (x : ByteArray) (r : List AV) (d : Int) (q : Nd) (a' : Int) (x' : ByteArray) (r' : List AV) : aOpen oaOpen a x r d q a' x' r' = (let z1 := (AV.agg [i0 (3 : Int), i0 a', s0 x'] :: r'); let z2 := (AV.agg [i0 (2 : Int), i0 a, s0 x] :: r); let z3 := (AV.tup [encP q, AV.lit Value.nilIface]); Yt (Yt ((decide ((0 : Int) ≤ (1 : Int) ∧ (1 : Int) ≤ (↑(List.length z2) : Int)) && Nat.beq 3 3) = true ∧ (d == (24 : Int)) = false ∧ inR IntKind.i64 (d + (1 : Int)) = true ∧ ∃ (_ : Unit), (True ∧ Wks [AV.ptr 1048577 [0, 0] 0 0] [AV.ptr 1048577 [0, 0] 0 0] ∧ hpL [eR 1048577 [0, 0] 2 [AV.agg [AV.lst false 3 (List.drop 1 z2), i0 (d + (1 : Int))]]] = hpL [eR 1048577 [0, 0] 2 [AV.agg [AV.lst false 3 r, i0 (d + (1 : Int))]]]) ∧ Nf (Nf (Yt ((decide ((0 : Int) ≤ (1 : Int) ∧ (1 : Int) ≤ (↑(List.length z1) : Int)) && Nat.beq 3 3) = true ∧ inR IntKind.i64 (d + (1 : Int) - (1 : Int)) = true ∧ Wk z3 z3 ∧ SameH (hpL [eR 1048577 [0, 0] 2 [AV.agg [AV.lst false 3 (List.drop 1 z1), i0 (d + (1 : Int) - (1 : Int))]]]) (hpL [eR 1048577 [0, 0] 2 [AV.agg [AV.lst false 3 r', i0 d]]]))))))) := by kernel_rfl
def oaOpenX : Orc := Orc.t (Orc.t (Orc.f (Orc.f (Orc.t (Orc.f Orc.z)))))
theorem aOpenX_vc (a : Int) (x : ByteArray) (r : List AV) (d : Int) (q : Nd) (k' a' : Int) (x' : ByteArray) (r' : List AV) : aOpenX oaOpenX a x r d q k' a' x' r' = (let z1 := (AV.tup [encP q, AV.iface 76 (AV.ref (AV.agg [i0 a', AV.iface 59 (i0 (15 : Int))]))]); let z2 := AV.lst false 3 (AV.agg [i0 k', i0 a', s0 x'] :: r'); let z3 := (AV.agg [i0 (2 : Int), i0 a, s0 x] :: r); Yt (Yt ((decide ((0 : Int) ≤ (1 : Int) ∧ (1 : Int) ≤ (↑(List.length z3) : Int)) && Nat.beq 3 3) = true ∧ (d == (24 : Int)) = false ∧ inR IntKind.i64 (d + (1 : Int)) = true ∧ ∃ (_ : Unit), (True ∧ Wks [AV.ptr 1048577 [0, 0] 0 0] [AV.ptr 1048577 [0, 0] 0 0] ∧ hpL [eR 1048577 [0, 0] 2 [AV.agg [AV.lst false 3 (List.drop 1 z3), i0 (d + (1 : Int))]]] = hpL [eR 1048577 [0, 0] 2 [AV.agg [AV.lst false 3 r, i0 (d + (1 : Int))]]]) ∧ Nf ((k' != (3 : Int)) = true ∧ Nf (inR IntKind.i64 (d + (1 : Int) - (1 : Int)) = true ∧ Wk z1 z1 ∧ SameH (hpL [eR 1048577 [0, 0] 2 [AV.agg [z2, i0 (d + (1 : Int) - (1 : Int))]]]) (hpL [eR 1048577 [0, 0] 2 [AV.agg [z2, i0 d]]])))))) := by kernel_rfl
def oaOpenE : Orc := Orc.t (Orc.t (Orc.f (Orc.t Orc.z)))
theorem aOpenE_vc (a : Int) (x : ByteArray) (r : List AV) (d : Int) (q : Nd) (ek ea : Int) (ts' : List AV) : aOpenE oaOpenE a x r d q ek ea ts' = (let z1 := (AV.tup [encP q, AV.iface 76 (AV.ref (AV.agg [i0 ea, AV.iface 59 (i0 ek)]))]); let z2 := (AV.agg [i0 (2 : Int), i0 a, s0 x] :: r); Yt (Yt ((decide ((0 : Int) ≤ (1 : Int) ∧ (1 : Int) ≤ (↑(List.length z2) : Int)) && Nat.beq 3 3) = true ∧ (d == (24 : Int)) = false ∧ inR IntKind.i64 (d + (1 : Int)) = true ∧ ∃ (_ : Unit), (True ∧ Wks [AV.ptr 1048577 [0, 0] 0 0] [AV.ptr 1048577 [0, 0] 0 0] ∧ hpL [eR 1048577 [0, 0] 2 [AV.agg [AV.lst false 3 (List.drop 1 z2), i0 (d + (1 : Int))]]] = hpL [eR 1048577 [0, 0] 2 [AV.agg [AV.lst false 3 r, i0 (d + (1 : Int))]]]) ∧ Yt (inR IntKind.i64 (d + (1 : Int) - (1 : Int)) = true ∧ Wk z1 z1 ∧ SameH (hpL [eR 1048577 [0, 0] 2 [AV.agg [AV.lst false 3 ts', i0 (d + (1 : Int) - (1 : Int))]]]) (hpL [eR 1048577 [0, 0] 2 [AV.agg [AV.lst false 3 ts', i0 d]]]))))) := by kernel_rfl
def oaName : Orc := Orc.f (Orc.t (Orc.t (Orc.f (Orc.f Orc.z))))
theorem aName_vc (a : Int) (x : ByteArray) (k' a' : Int) (x' : ByteArray) (r : List AV) (d : Int) : aName oaName a x k' a' x' r d = (let z1 := (hpL [eR 1048577 [0, 0] 2 [AV.agg [AV.lst false 3 (AV.agg [i0 k', i0 a', s0 x'] :: r), i0 d]]]); Nf (Yt (Yt ((decide ((0 : Int) ≤ (1 : Int) ∧ (1 : Int) ≤ (↑(List.length (AV.agg [i0 (1 : Int), i0 a, s0 x] :: AV.agg [i0 k', i0 a', s0 x'] :: r)) : Int)) && Nat.beq 3 3) = true ∧ (k' == (2 : Int)) = false ∧ ∃ (_ : Unit), (qVP12 x) ∧ Nf (Wk (AV.tup [AV.agg [i0 (1 : Int), i0 a, i0 (0 : Int), s0 x, AV.lit (Value.slice none 0 0)], AV.lit Value.nilIface]) (AV.tup [AV.agg [i0 (1 : Int), i0 a, i0 (0 : Int), s0 x, AV.lst false 5 []], AV.lit Value.nilIface]) ∧ SameH z1 z1))))) := by kernel_rfl
def oaNameX : Orc := Orc.f (Orc.t (Orc.t (Orc.f (Orc.t (Orc.f Orc.z)))))
theorem aNameX_vc (a : Int) (x : ByteArray) (k' a' : Int) (x' : ByteArray) (r : List AV) (d : Int) : aNameX oaNameX a x k' a' x' r d = (let z1 := (hpL [eR 1048577 [0, 0] 2 [AV.agg [AV.lst false 3 (AV.agg [i0 k', i0 a', s0 x'] :: r), i0 d]]]); let z2 := AV.iface 76 (AV.ref (AV.agg [i0 a, AV.iface 59 (i0 (15 : Int))])); Nf (Yt (Yt ((decide ((0 : Int) ≤ (1 : Int) ∧ (1 : Int) ≤ (↑(List.length (AV.agg [i0 (1 : Int), i0 a, s0 x] :: AV.agg [i0 k', i0 a', s0 x'] :: r)) : Int)) && Nat.beq 3 3) = true ∧ (k' == (2 : Int)) = false ∧ ∃ (_ : Unit), (qVP12 x) ∧ Yt (Nf (Wk (AV.tup [AV.agg [i0 (0 : Int), i0 (0 : Int), i0 (0 : Int), s0 ⟨⟨[]⟩⟩, AV.lit (Value.slice none 0 0)], z2]) (AV.tup [AV.agg [i0 (0 : Int), i0 (0 : Int), i0 (0 : Int), s0 ByteArray.empty, AV.lst false 5 []], z2]) ∧ SameH z1 z1)))))) := by kernel_rfl
def oaCall0 : Orc := Orc.f (HT (Orc.f Orc.z))
theorem aCall0_vc (a : Int) (x : ByteArray) (a' : Int) (x' : ByteArray) (r : List AV) (d : Int) : aCall0 oaCall0 a x a' x' r d = (let z1 := (hpL [eR 1048577 [0, 0] 2 [AV.agg [AV.lst false 3 (AV.agg [i0 (2 : Int), i0 a', s0 x'] :: r), i0 d]]]); let z2 := AV.iface 76 (AV.ref (AV.agg [i0 a, AV.iface 59 (i0 (15 : Int))])); Nf (Yt (Yt ((qVP11 a x a' x' r) = true ∧ Yt (∃ (_ : Unit), (qVP12 x) ∧ Yt (Nf (Wk (AV.tup [AV.agg [i0 (0 : Int), i0 (0 : Int), i0 (0 : Int), s0 ⟨⟨[]⟩⟩, AV.lit (Value.slice none 0 0)], z2]) (AV.tup [AV.agg [i0 (0 : Int), i0 (0 : Int), i0 (0 : Int), s0 ByteArray.empty, AV.lst false 5 []], z2]) ∧ SameH z1 z1))))))) := by kernel_rfl
def oaCallD : Orc := Orc.f (Orc.t (Orc.t (Orc.t (Orc.f (Orc.t (Orc.t (Orc.f Orc.z)))))))
theorem aCallD_vc (a : Int) (x : ByteArray) (v a' : Int) (x' : ByteArray) (r : List AV) : aCallD oaCallD a x v a' x' r = (let z1 := AV.iface 76 (AV.ref (AV.agg [i0 a', AV.iface 59 (i0 (16 : Int))])); Nf (Yt (Yt ((qVP11 a x a' x' r) = true ∧ Yt (∃ (_ : Unit), (qVP12 x) ∧ (v == (0 : Int)) = false ∧ Yt ((qVP13 a' x' r) = true ∧ Yt (Nf (Wk (AV.tup [AV.agg [i0 (0 : Int), i0 (0 : Int), i0 (0 : Int), s0 ⟨⟨[]⟩⟩, AV.lit (Value.slice none 0 0)], z1]) (AV.tup [AV.agg [i0 (0 : Int), i0 (0 : Int), i0 (0 : Int), s0 ByteArray.empty, AV.lst false 5 []], z1]) ∧ SameH (hpL [eR 1048577 [0, 0] 2 [AV.agg [AV.lst false 3 (List.drop 1 (AV.agg [i0 (2 : Int), i0 a', s0 x'] :: r)), i0 (24 : Int)]]]) (hpL [eR 1048577 [0, 0] 2 [AV.agg [AV.lst false 3 r, i0 (24 : Int)]]]))))))))) := by kernel_rfl
def oaCall1 : Orc := Orc.f (Orc.t (Orc.t (Orc.t (Orc.f (Orc.t (Orc.f (Orc.t (Orc.f (Orc.f (Orc.t Orc.z))))))))))
theorem aCall1_vc (a : Int) (x : ByteArray) (a' : Int) (x' : ByteArray) (c : Int) (y : ByteArray) (r : List AV) (d : Int) : aCall1 oaCall1 a x a' x' c y r d = (let z1 := [i0 (3 : Int), i0 c, s0 y]; Nf (Yt (Yt ((decide ((0 : Int) ≤ (1 : Int) ∧ (1 : Int) ≤ (↑(List.length (AV.agg [i0 (1 : Int), i0 a, s0 x] :: AV.agg [i0 (2 : Int), i0 a', s0 x'] :: AV.agg z1 :: r)) : Int)) && Nat.beq 3 3) = true ∧ Yt (∃ (_ : Unit), (qVP12 x) ∧ Nf (Yt ((decide ((0 : Int) ≤ (1 : Int) ∧ (1 : Int) ≤ (↑(List.length (AV.agg [i0 (2 : Int), i0 a', s0 x'] :: AV.agg z1 :: r)) : Int)) && Nat.beq 3 3) = true ∧ (d == (24 : Int)) = false ∧ inR IntKind.i64 (d + (1 : Int)) = true ∧ ∃ (_ : Unit), (qVP12 x) ∧ Yt (Nf (Nf (Yt ((decide ((0 : Int) ≤ (1 : Int) ∧ (1 : Int) ≤ (↑(List.length (AV.agg z1 :: r)) : Int)) && Nat.beq 3 3) = true ∧ inR IntKind.i64 (d + (1 : Int) - (1 : Int)) = true ∧ Wk (AV.tup [AV.agg [i0 (10 : Int), i0 a, i0 (0 : Int), s0 x, AV.lit (Value.slice none 0 0)], AV.lit Value.nilIface]) (AV.tup [AV.agg [i0 (10 : Int), i0 a, i0 (0 : Int), s0 x, AV.lst false 5 []], AV.lit Value.nilIface]) ∧ SameH (hpL [eR 1048577 [0, 0] 2 [AV.agg [AV.lst false 3 (List.drop 1 (AV.agg z1 :: r)), i0 (d + (1 : Int) - (1 : Int))]]]) (hpL [eR 1048577 [0, 0] 2 [AV.agg [AV.lst false 3 r, i0 d]]])))))))))))) := by kernel_rfl
def oaCall1X : Orc := Orc.f (Orc.t (Orc.t (Orc.t (Orc.f (Orc.t (Orc.f (Orc.t (Orc.f (Orc.t (Orc.f Orc.z))))))))))
theorem aCall1X_vc (a : Int) (x : ByteArray) (a' : Int) (x' : ByteArray) (kc c : Int) (y : ByteArray) (r : List AV) (d : Int) : aCall1X oaCall1X a x a' x' kc c y r d = (let z1 := AV.iface 76 (AV.ref (AV.agg [i0 c, AV.iface 59 (i0 (15 : Int))])); let z2 := [i0 kc, i0 c, s0 y]; Nf (Yt (Yt ((decide ((0 : Int) ≤ (1 : Int) ∧ (1 : Int) ≤ (↑(List.length (AV.agg [i0 (1 : Int), i0 a, s0 x] :: AV.agg [i0 (2 : Int), i0 a', s0 x'] :: AV.agg z2 :: r)) : Int)) && Nat.beq 3 3) = true ∧ Yt (∃ (_ : Unit), (qVP12 x) ∧ Nf (Yt ((decide ((0 : Int) ≤ (1 : Int) ∧ (1 : Int) ≤ (↑(List.length (AV.agg [i0 (2 : Int), i0 a', s0 x'] :: AV.agg z2 :: r)) : Int)) && Nat.beq 3 3) = true ∧ (d == (24 : Int)) = false ∧ inR IntKind.i64 (d + (1 : Int)) = true ∧ ∃ (_ : Unit), (qVP12 x) ∧ Yt (Nf ((kc != (3 : Int)) = true ∧ Nf (inR IntKind.i64 (d + (1 : Int) - (1 : Int)) = true ∧ Wk (AV.tup [AV.agg [i0 (10 : Int), i0 a, i0 (0 : Int), s0 x, AV.lit (Value.slice none 0 0)], z1]) (AV.tup [AV.agg [i0 (10 : Int), i0 a, i0 (0 : Int), s0 x, AV.lst false 5 []], z1]) ∧ SameH (hpL [eR 1048577 [0, 0] 2 [AV.agg [AV.lst false 3 (AV.agg z2 :: r), i0 (d + (1 : Int) - (1 : Int))]]]) (hpL [eR 1048577 [0, 0] 2 [AV.agg [AV.lst false 3 (AV.agg z2 :: r), i0 d]]]))))))))))) := by kernel_rfl
def oaCallE : Orc := Orc.f (Orc.t (Orc.t (Orc.t (Orc.f (Orc.t (Orc.f (Orc.f (HT (Orc.t (Orc.t Orc.z))))))))))
theorem aCallE_vc (a : Int) (x : ByteArray) (v a' : Int) (x' : ByteArray) (r : List AV) (d : Int) (q : Nd) (ek ea : Int) (ts' : List AV) : aCallE oaCallE a x v a' x' r d q ek ea ts' = (let z1 := AV.iface 76 (AV.ref (AV.agg [i0 ea, AV.iface 59 (i0 ek)])); Nf (Yt (Yt ((qVP11 a x a' x' r) = true ∧ Yt (∃ (_ : Unit), (qVP12 x) ∧ (v == (0 : Int)) = false ∧ Yt ((qVP13 a' x' r) = true ∧ (d == (24 : Int)) = false ∧ inR IntKind.i64 (d + (1 : Int)) = true ∧ ∃ (_ : Unit), (qVP12 x) ∧ (v == (1 : Int)) = false ∧ ∃ (_ : Unit), (qVP10 a' x' r d) ∧ Yt4 (Yt (Yt (inR IntKind.i64 (d + (1 : Int) - (1 : Int)) = true ∧ Wk (AV.tup [AV.agg [i0 (10 : Int), i0 a, i0 (0 : Int), s0 x, AV.lst true 5 [encP q]], z1]) (AV.tup [AV.agg [i0 (10 : Int), i0 a, i0 (0 : Int), s0 x, AV.lst false 5 [encP q]], z1]) ∧ SameH (hpL [eR 1048577 [0, 0] 2 [AV.agg [AV.lst false 3 ts', i0 (d + (1 : Int) - (1 : Int))]]]) (hpL [eR 1048577 [0, 0] 2 [AV.agg [AV.lst false 3 ts', i0 d]]])))))))))) := by kernel_rfl
def oaCall2 : Orc := Orc.f (Orc.t (Orc.t (Orc.t (Orc.f (Orc.t (HF (Orc.f (Orc.f (Orc.t (Orc.f (Orc.f (Orc.t Orc.z))))))))))))
theorem aCall2_vc (a : Int) (x : ByteArray) (a' : Int) (x' : ByteArray) (r : List AV) (d : Int) (q : Nd) (c : Int) (y : ByteArray) (r' : List AV) : aCall2 oaCall2 a x a' x' r d q c y r' = (let z1 := (AV.agg [i0 (3 : Int), i0 c, s0 y] :: r'); Nf (Yt (Yt ((qVP11 a x a' x' r) = true ∧ Yt (∃ (_ : Unit), (qVP12 x) ∧ Nf (Yt ((qVP13 a' x' r) = true ∧ (d == (24 : Int)) = false ∧ inR IntKind.i64 (d + (1 : Int)) = true ∧ ∃ (_ : Unit), (qVP12 x) ∧ Nf (∃ (_ : Unit), (qVP10 a' x' r d) ∧ Nf (Nf (Nf (∃ (_ : Unit), (qVP12 x) ∧ Nf (Yt (Nf (Nf (Yt ((decide ((0 : Int) ≤ (1 : Int) ∧ (1 : Int) ≤ (↑(List.length z1) : Int)) && Nat.beq 3 3) = true ∧ inR IntKind.i64 (d + (1 : Int) - (1 : Int)) = true ∧ Wk (AV.tup [AV.agg [i0 (10 : Int), i0 a, i0 (0 : Int), s0 x, AV.lst true 5 [encP q]], AV.lit Value.nilIface]) (AV.tup [AV.agg [i0 (10 : Int), i0 a, i0 (0 : Int), s0 x, AV.lst false 5 [encP q]], AV.lit Value.nilIface]) ∧ SameH (hpL [eR 1048577 [0, 0] 2 [AV.agg [AV.lst false 3 (List.drop 1 z1), i0 (d + (1 : Int) - (1 : Int))]]]) (hpL [eR 1048577 [0, 0] 2 [AV.agg [AV.lst false 3 r', i0 d]]]))))))))))))))))) := by kernel_rfl
def oaCall2X : Orc := Orc.f (Orc.t (Orc.t (Orc.t (Orc.f (Orc.t (HF (Orc.f (Orc.f (Orc.t (Orc.f (Orc.t (Orc.f Orc.z))))))))))))
theorem aCall2X_vc (a : Int) (x : ByteArray) (a' : Int) (x' : ByteArray) (r : List AV) (d : Int) (q : Nd) (kc c : Int) (y : ByteArray) (r' : List AV) : aCall2X oaCall2X a x a' x' r d q kc c y r' = (let z1 := AV.iface 76 (AV.ref (AV.agg [i0 c, AV.iface 59 (i0 (15 : Int))])); let z2 := AV.lst false 3 (AV.agg [i0 kc, i0 c, s0 y] :: r'); Nf (Yt (Yt ((qVP11 a x a' x' r) = true ∧ Yt (∃ (_ : Unit), (qVP12 x) ∧ Nf (Yt ((qVP13 a' x' r) = true ∧ (d == (24 : Int)) = false ∧ inR IntKind.i64 (d + (1 : Int)) = true ∧ ∃ (_ : Unit), (qVP12 x) ∧ Nf (∃ (_ : Unit), (qVP10 a' x' r d) ∧ Nf (Nf (Nf (∃ (_ : Unit), (qVP12 x) ∧ Nf (Yt (Nf ((kc != (3 : Int)) = true ∧ Nf (inR IntKind.i64 (d + (1 : Int) - (1 : Int)) = true ∧ Wk (AV.tup [AV.agg [i0 (10 : Int), i0 a, i0 (0 : Int), s0 x, AV.lst true 5 [encP q]], z1]) (AV.tup [AV.agg [i0 (10 : Int), i0 a, i0 (0 : Int), s0 x, AV.lst false 5 [encP q]], z1]) ∧ SameH (hpL [eR 1048577 [0, 0] 2 [AV.agg [z2, i0 (d + (1 : Int) - (1 : Int))]]]) (hpL [eR 1048577 [0, 0] 2 [AV.agg [z2, i0 d]]])))))))))))))))) := by kernel_rfl
def oaCall3C : Orc := Orc.f (Orc.t (Orc.t (Orc.t (Orc.f (Orc.t (HF (Orc.f (Orc.f (Orc.f (Orc.t (Orc.f (Orc.t (Orc.t Orc.z)))))))))))))
theorem aCall3C_vc (a : Int) (x : ByteArray) (a' : Int) (x' : ByteArray) (r : List AV) (d : Int) (q : Nd) (kc c : Int) (y : ByteArray) (r' : List AV) : aCall3C oaCall3C a x a' x' r d q kc c y r' = (let z1 := AV.iface 76 (AV.ref (AV.agg [i0 c, AV.iface 59 (i0 (15 : Int))])); let z2 := AV.lst false 3 (AV.agg [i0 kc, i0 c, s0 y] :: r'); Nf (Yt (Yt ((qVP11 a x a' x' r) = true ∧ Yt (∃ (_ : Unit), (qVP12 x) ∧ Nf (Yt ((qVP13 a' x' r) = true ∧ (d == (24 : Int)) = false ∧ inR IntKind.i64 (d + (1 : Int)) = true ∧ ∃ (_ : Unit), (qVP12 x) ∧ Nf (∃ (_ : Unit), (qVP10 a' x' r d) ∧ Nf (Nf (Nf (∃ (_ : Unit), (qVP12 x) ∧ Nf (Nf ((kc != (4 : Int)) = true ∧ Nf (Yt (Yt (inR IntKind.i64 (d + (1 : Int) - (1 : Int)) = true ∧ Wk (AV.tup [AV.agg [i0 (10 : Int), i0 a, i0 (0 : Int), s0 x, AV.lst true 5 [encP q]], z1]) (AV.tup [AV.agg [i0 (10 : Int), i0 a, i0 (0 : Int), s0 x, AV.lst false 5 [encP q]], z1]) ∧ SameH (hpL [eR 1048577 [0, 0] 2 [AV.agg [z2, i0 (d + (1 : Int) - (1 : Int))]]]) (hpL [eR 1048577 [0, 0] 2 [AV.agg [z2, i0 d]]]))))))))))))))))) := by kernel_rfl
def oaCall3N : Orc := Orc.f (Orc.t (Orc.t (Orc.t (Orc.f (Orc.t (HF (HF (Orc.t (Orc.f (Orc.t (Orc.t Orc.z)))))))))))
theorem aCall3N_vc (a : Int) (x : ByteArray) (a' : Int) (x' : ByteArray) (r : List AV) (d : Int) (q : Nd) (c : Int) (y : ByteArray) (kn an : Int) (xn : ByteArray) (m : Int) (r' : List AV) : aCall3N oaCall3N a x a' x' r d q c y kn an xn m r' = (let z1 := [i0 kn, i0 an, s0 xn]; let z2 := AV.iface 76 (AV.ref (AV.agg [i0 an, AV.iface 59 (i0 (15 : Int))])); Nf (Yt (Yt ((qVP11 a x a' x' r) = true ∧ Yt (∃ (_ : Unit), (qVP12 x) ∧ Nf (Yt ((qVP13 a' x' r) = true ∧ (d == (24 : Int)) = false ∧ inR IntKind.i64 (d + (1 : Int)) = true ∧ ∃ (_ : Unit), (qVP12 x) ∧ Nf (∃ (_ : Unit), (qVP10 a' x' r d) ∧ Nf (Nf (Nf (∃ (_ : Unit), (qVP12 x) ∧ Nf (Nf (Nf (Yt ((decide ((0 : Int) ≤ (1 : Int) ∧ (1 : Int) ≤ (↑(List.length (AV.agg [i0 (4 : Int), i0 c, s0 y] :: AV.agg z1 :: r')) : Int)) && Nat.beq 3 3) = true ∧ Nf (U1 [AV.agg z1] [] (Yt (Yt (inR IntKind.i64 (d + (1 : Int) - (1 : Int)) = true ∧ Wk (AV.tup [AV.agg [i0 (10 : Int), i0 a, i0 (0 : Int), s0 x, AV.lst true 5 [encP q]], z2]) (AV.tup [AV.agg [i0 (10 : Int), i0 a, i0 (0 : Int), s0 x, AV.lst false 5 [encP q]], z2]) ∧ SameH (hpL [eR 1048577 [0, 0] 2 [AV.agg [AV.lst false 3 (AV.agg z1 :: r'), i0 (d + (1 : Int) - (1 : Int))]]]) (hpL [eR 1048577 [0, 0] 2 [AV.agg [AV.lst false 3 (AV.agg z1 :: r'), i0 d]]])))))))))))))))))))) := by kernel_rfl
def oaCall3 : Orc := Orc.f (Orc.t (Orc.t (Orc.t (Orc.f (Orc.t (HF (HF (Orc.t (Orc.f (Orc.f (Orc.t (Orc.f (Orc.f (Orc.t Orc.z))))))))))))))
theorem aCall3_vc (a : Int) (x : ByteArray) (a' : Int) (x' : ByteArray) (r : List AV) (d : Int) (q : Nd) (c : Int) (y : ByteArray) (an : Int) (xn : ByteArray) (m z : Int) (w : ByteArray) (r' : List AV) : aCall3 oaCall3 a x a' x' r d q c y an xn m z w r' = (let z1 := [i0 (1 : Int), i0 an, s0 xn]; let z2 := [i0 (3 : Int), i0 z, s0 w]; Nf (Yt (Yt ((qVP11 a x a' x' r) = true ∧ Yt (∃ (_ : Unit), (qVP12 x) ∧ Nf (Yt ((qVP13 a' x' r) = true ∧ (d == (24 : Int)) = false ∧ inR IntKind.i64 (d + (1 : Int)) = true ∧ ∃ (_ : Unit), (qVP12 x) ∧ Nf (∃ (_ : Unit), (qVP10 a' x' r d) ∧ Nf (Nf (Nf (∃ (_ : Unit), (qVP12 x) ∧ Nf (Nf (Nf (Yt ((decide ((0 : Int) ≤ (1 : Int) ∧ (1 : Int) ≤ (↑(List.length (AV.agg [i0 (4 : Int), i0 c, s0 y] :: AV.agg z1 :: AV.agg z2 :: r')) : Int)) && Nat.beq 3 3) = true ∧ Nf (U1 [AV.agg z1] [] (Nf (Yt ((decide ((0 : Int) ≤ (1 : Int) ∧ (1 : Int) ≤ (↑(List.length (AV.agg z1 :: AV.agg z2 :: r')) : Int)) && Nat.beq 3 3) = true ∧ Nf (Nf (Yt ((decide ((0 : Int) ≤ (1 : Int) ∧ (1 : Int) ≤ (↑(List.length (AV.agg z2 :: r')) : Int)) && Nat.beq 3 3) = true ∧ inR IntKind.i64 (d + (1 : Int) - (1 : Int)) = true ∧ Wk (AV.tup [AV.agg [i0 (10 : Int), i0 a, i0 m, s0 x, AV.lst true 5 [encP q]], AV.lit Value.nilIface]) (AV.tup [AV.agg [i0 (10 : Int), i0 a, i0 m, s0 x, AV.lst false 5 [encP q]], AV.lit Value.nilIface]) ∧ SameH (hpL [eR 1048577 [0, 0] 2 [AV.agg [AV.lst false 3 (List.drop 1 (AV.agg z2 :: r')), i0 (d + (1 : Int) - (1 : Int))]]]) (hpL [eR 1048577 [0, 0] 2 [AV.agg [AV.lst false 3 r', i0 d]]]))))))))))))))))))))))) := by kernel_rfl
def oaCall3X : Orc := Orc.f (Orc.t (Orc.t (Orc.t (Orc.f (Orc.t (HF (HF (Orc.t (Orc.f (Orc.f (Orc.t (Orc.f (Orc.t (Orc.f Orc.z))))))))))))))
theorem aCall3X_vc (a : Int) (x : ByteArray) (a' : Int) (x' : ByteArray) (r : List AV) (d : Int) (q : Nd) (c : Int) (y : ByteArray) (an : Int) (xn : ByteArray) (m kz z : Int) (w : ByteArray) (r' : List AV) : aCall3X oaCall3X a x a' x' r d q c y an xn m kz z w r' = (let z1 := [i0 (1 : Int), i0 an, s0 xn]; let z2 := AV.iface 76 (AV.ref (AV.agg [i0 z, AV.iface 59 (i0 (15 : Int))])); let z3 := [i0 kz, i0 z, s0 w]; Nf (Yt (Yt ((qVP11 a x a' x' r) = true ∧ Yt (∃ (_ : Unit), (qVP12 x) ∧ Nf (Yt ((qVP13 a' x' r) = true ∧ (d == (24 : Int)) = false ∧ inR IntKind.i64 (d + (1 : Int)) = true ∧ ∃ (_ : Unit), (qVP12 x) ∧ Nf (∃ (_ : Unit), (qVP10 a' x' r d) ∧ Nf (Nf (Nf (∃ (_ : Unit), (qVP12 x) ∧ Nf (Nf (Nf (Yt ((decide ((0 : Int) ≤ (1 : Int) ∧ (1 : Int) ≤ (↑(List.length (AV.agg [i0 (4 : Int), i0 c, s0 y] :: AV.agg z1 :: AV.agg z3 :: r')) : Int)) && Nat.beq 3 3) = true ∧ Nf (U1 [AV.agg z1] [] (Nf (Yt ((decide ((0 : Int) ≤ (1 : Int) ∧ (1 : Int) ≤ (↑(List.length (AV.agg z1 :: AV.agg z3 :: r')) : Int)) && Nat.beq 3 3) = true ∧ Nf ((kz != (3 : Int)) = true ∧ Nf (inR IntKind.i64 (d + (1 : Int) - (1 : Int)) = true ∧ Wk (AV.tup [AV.agg [i0 (10 : Int), i0 a, i0 m, s0 x, AV.lst true 5 [encP q]], z2]) (AV.tup [AV.agg [i0 (10 : Int), i0 a, i0 m, s0 x, AV.lst false 5 [encP q]], z2]) ∧ SameH (hpL [eR 1048577 [0, 0] 2 [AV.agg [AV.lst false 3 (AV.agg z3 :: r'), i0 (d + (1 : Int) - (1 : Int))]]]) (hpL [eR 1048577 [0, 0] 2 [AV.agg [AV.lst false 3 (AV.agg z3 :: r'), i0 d]]])))))))))))))))))))))) := by kernel_rfl
end Go.Proofs.YtpofhijgccocpaaDoor
end
section
namespace Go.Proofs.YtpofhijgccocpaaDoor
open Go.AS Go.TP
noncomputable section
noncomputable def XA (ts ts' : List AV) (d : Int) (n e : AV) : WX := XB.add fPAtom (Sp.con [spP ts ts' d n e])
noncomputable def XAA (ts ts' : List AV) (d : Int) (n e : AV) (us us' : List AV) (d2 : Int) (n2 e2 : AV) : WX := XB.add fPAtom (Sp.con [spP ts ts' d n e, spP us us' d2 n2 e2])
abbrev E0 : ByteArray := ByteArray.empty
def kTake (os : Orc) (a : Int) (x : ByteArray) (r : List AV) (d : Int) : Prop := runF (XB.ask askP) 14 fPTake (fn fPTake) (code fPTake) os 0 [] [pArg] (pHeap (tokV 5 a x :: r) d) ⟨tokV 5 a x, pHeap r d, [1048577]⟩
def gUp (X : WX) (os : Orc) (a : Int) (x : ByteArray) (r ts' : List AV) (d : Int) (n e : AV) : Prop := runF (X.ask askP) 14 fPUp (fn fPUp) (code fPUp) os 0 [] [pArg, tokV 5 a x] (pHeap r d) (pOut ts' d n e)
def uD (os : Orc) (a : Int) (x : ByteArray) (r : List AV) : Prop := gUp XB os a x r r 24 (nodeV 6 a 0 E0 []) (encErr 16 a)
def uN (os : Orc) (a : Int) (x : ByteArray) (r : List AV) (d : Int) (q : Nd) (ts' : List AV) : Prop := gUp (XA r ts' (d + 1) (encP q) nilE) os a x r ts' d (nodeV 6 a 0 E0 [encP q]) nilE
def uE (os : Orc) (a : Int) (x : ByteArray) (r : List AV) (d : Int) (q : Nd) (ek ea : Int) (ts' : List AV) : Prop := gUp (XA r ts' (d + 1) (encP q) (encErr ek ea)) os a x r ts' d (nodeV 6 a 0 E0 [encP q]) (encErr ek ea)
def spTake (a : Int) (x : ByteArray) (r : List AV) (d : Int) : Sp := ⟨Unit, fun _ => True, fun _ => [pArg], fun _ => pHeap (tokV 5 a x :: r) d, fun _ => ⟨tokV 5 a x, pHeap r d, [1048577]⟩⟩
def spUp (a : Int) (x : ByteArray) (r ts' : List AV) (d : Int) (n e : AV) : Sp := ⟨Unit, fun _ => True, fun _ => [pArg, tokV 5 a x], fun _ => pHeap r d, fun _ => pOut ts' d n e⟩
noncomputable def XU (a : Int) (x : ByteArray) (r ts' : List AV) (d : Int) (n e : AV) : WX := (XB.add fPTake (Sp.con [spTake a x r d])).add fPUp (Sp.con [spUp a x r ts' d n e])
def rUpN (os : Orc) (a : Int) (x : ByteArray) (r : List AV) (d : Int) (q : Nd) (ts' : List AV) : Prop := gP (XU a x r ts' d (encP q) nilE) fPRanged os (tokV 5 a x :: r) ts' d (encP q) nilE
def rUpE (os : Orc) (a : Int) (x : ByteArray) (r : List AV) (d : Int) (q : Nd) (ek ea : Int) (ts' : List AV) : Prop := gP (XU a x r ts' d (encP q) (encErr ek ea)) fPRanged os (tokV 5 a x :: r) ts' d (encP q) (encErr ek ea)
def rAtE (os : Orc) (k a : Int) (x : ByteArray) (r : List AV) (d : Int) (q : Nd) (ek ea : Int) (ts' : List AV) : Prop := gP (XA (tokV k a x :: r) ts' d (encP q) (encErr ek ea)) fPRanged os (tokV k a x :: r) ts' d (encP q) (encErr ek ea)
def rAt0 (os : Orc) (k a : Int) (x : ByteArray) (r : List AV) (d : Int) (q : Nd) (k' a' : Int) (x' : ByteArray) (r' : List AV) : Prop :=
 gP (XA (tokV k a x :: r) (tokV k' a' x' :: r') d (encP q) nilE) fPRanged os (tokV k a x :: r) (tokV k' a' x' :: r') d (encP q) nilE
def rBetD (os : Orc) (k a : Int) (x : ByteArray) (r : List AV) (q : Nd) (a' : Int) (x' : ByteArray) (r' : List AV) : Prop :=
 gP (XA (tokV k a x :: r) (tokV 5 a' x' :: r') 24 (encP q) nilE) fPRanged os (tokV k a x :: r) r' 24 (nodeV 8 a' 0 E0 [encP q]) (encErr 16 a')
def rDown (os : Orc) (k a : Int) (x : ByteArray) (r : List AV) (d : Int) (q : Nd) (a' : Int) (x' : ByteArray) (k2 a2 : Int) (x2 : ByteArray) (r' : List AV) : Prop :=
 gP (XA (tokV k a x :: r) (tokV 5 a' x' :: tokV k2 a2 x2 :: r') d (encP q) nilE) fPRanged os (tokV k a x :: r) (tokV k2 a2 x2 :: r') d (nodeV 7 a' 0 E0 [encP q]) nilE
def gP1 (X : WX) (f : Nat) (os : Orc) (ts ts' : List AV) (d : Int) (n e : AV) : Prop := runF (X.ask askP) 14 f (fn f) (code f) os 1 [] [pArg] (pHeap ts d) (pOut ts' d n e)
def rBet (os : Orc) (k a : Int) (x : ByteArray) (r : List AV) (d : Int) (q : Nd) (a' : Int) (x' : ByteArray) (k2 a2 : Int) (x2 : ByteArray) (r' : List AV) (q2 : Nd) (e2 : AV) (ts' : List AV) : Prop :=
 gP1 (XAA (tokV k a x :: r) (tokV 5 a' x' :: tokV k2 a2 x2 :: r') d (encP q) nilE (tokV k2 a2 x2 :: r') ts' (d + 1) (encP q2) e2) fPRanged os (tokV k a x :: r) ts' d (nodeV 8 a' 0 E0 [encP q, encP q2]) e2
def rBet2N (os : Orc) (k a : Int) (x : ByteArray) (r : List AV) (d : Int) (q : Nd) (a' : Int) (x' : ByteArray) (a2 : Int) (x2 : ByteArray) (r' : List AV) (q2 : Nd) (ts' : List AV) : Prop := rBet os k a x r d q a' x' 2 a2 x2 r' q2 nilE ts'
def rBet2E (os : Orc) (k a : Int) (x : ByteArray) (r : List AV) (d : Int) (q : Nd) (a' : Int) (x' : ByteArray) (a2 : Int) (x2 : ByteArray) (r' : List AV) (q2 : Nd) (ek ea : Int) (ts' : List AV) : Prop := rBet os k a x r d q a' x' 2 a2 x2 r' q2 (encErr ek ea) ts'
def rBet1N (os : Orc) (k a : Int) (x : ByteArray) (r : List AV) (d : Int) (q : Nd) (a' : Int) (x' : ByteArray) (a2 : Int) (x2 : ByteArray) (r' : List AV) (q2 : Nd) (ts' : List AV) : Prop := rBet os k a x r d q a' x' 1 a2 x2 r' q2 nilE ts'
def rBet1E (os : Orc) (k a : Int) (x : ByteArray) (r : List AV) (d : Int) (q : Nd) (a' : Int) (x' : ByteArray) (a2 : Int) (x2 : ByteArray) (r' : List AV) (q2 : Nd) (ek ea : Int) (ts' : List AV) : Prop := rBet os k a x r d q a' x' 1 a2 x2 r' q2 (encErr ek ea) ts'
def rOnly (os : Orc) (k a : Int) (x : ByteArray) (r : List AV) (d : Int) (q : Nd) (a' : Int) (x' : ByteArray) (r' : List AV) (q2 : Nd) (e2 : AV) (ts' : List AV) : Prop :=
 gP1 (XAA (tokV k a x :: r) (tokV 6 a' x' :: r') d (encP q) nilE r' ts' d (encP q2) e2) fPRanged os (tokV k a x :: r) ts' d (nodeV 9 a' 0 E0 [encP q, encP q2]) e2
def rOnlyN (os : Orc) (k a : Int) (x : ByteArray) (r : List AV) (d : Int) (q : Nd) (a' : Int) (x' : ByteArray) (r' : List AV) (q2 : Nd) (ts' : List AV) : Prop := rOnly os k a x r d q a' x' r' q2 nilE ts'
def rOnlyE (os : Orc) (k a : Int) (x : ByteArray) (r : List AV) (d : Int) (q : Nd) (a' : Int) (x' : ByteArray) (r' : List AV) (q2 : Nd) (ek ea : Int) (ts' : List AV) : Prop := rOnly os k a x r d q a' x' r' q2 (encErr ek ea) ts'
def tNotD (os : Orc) (a : Int) (x : ByteArray) (r : List AV) : Prop := gP XB fPPart os (tokV 10 a x :: r) r 24 (nodeV 5 a 0 E0 []) (encErr 16 a)
def tNot (os : Orc) (a : Int) (x : ByteArray) (r : List AV) (d : Int) (q : Nd) (e : AV) (ts' : List AV) : Prop :=
 gP (XB.add fPPart (Sp.con [spP r ts' (d + 1) (encP q) e])) fPPart os (tokV 10 a x :: r) ts' d (nodeV 5 a 0 E0 [encP q]) e
def tNotN (os : Orc) (a : Int) (x : ByteArray) (r : List AV) (d : Int) (q : Nd) (ts' : List AV) : Prop := tNot os a x r d q nilE ts'
def tNotE (os : Orc) (a : Int) (x : ByteArray) (r : List AV) (d : Int) (q : Nd) (ek ea : Int) (ts' : List AV) : Prop := tNot os a x r d q (encErr ek ea) ts'
def tRan (os : Orc) (k a : Int) (x : ByteArray) (r : List AV) (d : Int) (q : Nd) (e : AV) (ts' : List AV) : Prop :=
 gP (XB.add fPRanged (Sp.con [spP (tokV k a x :: r) ts' d (encP q) e])) fPPart os (tokV k a x :: r) ts' d (encP q) e
def tRanN (os : Orc) (k a : Int) (x : ByteArray) (r : List AV) (d : Int) (q : Nd) (ts' : List AV) : Prop := tRan os k a x r d q nilE ts'
def tRanE (os : Orc) (k a : Int) (x : ByteArray) (r : List AV) (d : Int) (q : Nd) (ek ea : Int) (ts' : List AV) : Prop := tRan os k a x r d q (encErr ek ea) ts'
structure Ch where
 f : Nat
 ks : List Value
 vs : List AV
abbrev chE : Ch := ⟨fPTerm, [.int .i64 7, .int .i64 8], [i0 2, i0 3]⟩
abbrev chT : Ch := ⟨fPPart, [.int .i64 9], [i0 4]⟩
def cArgs (c : Ch) (e : AV) : List AV := [.ptr 1048580 [3, 0] 0 0, .mp 1048579 [2, 0], .fn (.func c.f) [.ptr 1048580 [3, 0] 0 0] [], .ptr 1048578 [1, 0] 0 0, .ptr 1048577 [0, 0] 0 0, e]
def cHeap (c : Ch) (ts : List AV) (d : Int) (n : AV) : Hp := hpL [(1048579, ⟨[2, 0], .map true c.ks c.vs⟩), (1048577, ⟨[0, 0], .row true 5 [n]⟩),
 (1048580, ⟨[3, 0], .row true 2 [.agg [.lst false 3 ts, i0 d]]⟩), (1048578, ⟨[1, 0], .row true 5 [.agg [i0 0, i0 0, i0 0, s0 E0, .lit (.slice none 0 0)]]⟩)]
def cOut (c : Ch) (ts : List AV) (d : Int) (n e : AV) : Ex × Back := (.exit 0, ⟨.tup [.ptr 1048578 [1, 0] 0 0, .ptr 1048577 [0, 0] 0 0, e], cHeap c ts d n, [1048577, 1048580]⟩)
abbrev lpCh (c : Ch) (P : Prop) (ts : List AV) (d : Int) (n e : AV) (r : Ex × Back) : Lp := Lp1W [0, 1, 2, 6, 8, 9] [] (fun _ => [6, 8, 9]) P (cArgs c e) (cHeap c ts d n) r
noncomputable def XC (c : Ch) (ts ts' : List AV) (d : Int) (n e : AV) : WX := XB.add c.f (Sp.con [spP ts ts' d n e])
def rCh (X : WX) (os : Orc) (c : Ch) (P : Prop) (ts : List AV) (d : Int) (n e : AV) (us : List AV) (n' e' : AV) (r' r : Ex × Back) : Prop :=
 runL (X.ask (fPChain :: askP)) 14 fPChain (fn fPChain).ntmps (loopAt (code fPChain) 0) (lpCh c P us d n' e' r') (lpCh c P us d n' e' r') os 0 [] (cArgs c e) (cHeap c ts d n) r
def cX (os : Orc) (c : Ch) (P : Prop) (k a : Int) (x : ByteArray) (r : List AV) (d : Int) (n : Nd) : Prop :=
 rCh XB os c P (tokV k a x :: r) d (encP n) nilE [] (encP n) nilE (cOut c [] d (encP n) nilE) (cOut c (tokV k a x :: r) d (encP n) nilE)
def cXe (os : Orc) (k a : Int) (x : ByteArray) (r : List AV) (d : Int) (n : Nd) : Prop := cX os chE False k a x r d n
def cXt (os : Orc) (k a : Int) (x : ByteArray) (r : List AV) (d : Int) (n : Nd) : Prop := cX os chT False k a x r d n
def cE (os : Orc) (c : Ch) (ts : List AV) (d : Int) (n : Nd) (ek ea : Int) : Prop := rCh XB os c False ts d (encP n) (encErr ek ea) [] (encP n) nilE (cOut c [] d (encP n) nilE) (cOut c ts d (encP n) (encErr ek ea))
def cEe (os : Orc) (ts : List AV) (d : Int) (n : Nd) (ek ea : Int) : Prop := cE os chE ts d n ek ea
def cEt (os : Orc) (ts : List AV) (d : Int) (n : Nd) (ek ea : Int) : Prop := cE os chT ts d n ek ea
def cR (os : Orc) (c : Ch) (k kk a : Int) (x : ByteArray) (r : List AV) (d : Int) (n q : Nd) (e : AV) (us zs : List AV) (m : Nd) (ef : AV) : Prop :=
 rCh (XC c r us d (encP q) e) os c True (tokV k a x :: r) d (encP n) nilE us (nodeV kk a 0 E0 [encP n, encP q]) e (cOut c zs d (encP m) ef) (cOut c zs d (encP m) ef)
def cR7N (os : Orc) (a : Int) (x : ByteArray) (r : List AV) (d : Int) (n q : Nd) (us zs : List AV) (m : Nd) : Prop := cR os chE 7 2 a x r d n q nilE us zs m nilE
def cR7F (os : Orc) (a : Int) (x : ByteArray) (r : List AV) (d : Int) (n q : Nd) (us zs : List AV) (m : Nd) (fk fa : Int) : Prop := cR os chE 7 2 a x r d n q nilE us zs m (encErr fk fa)
def cR7E (os : Orc) (a : Int) (x : ByteArray) (r : List AV) (d : Int) (n q : Nd) (us zs : List AV) (m : Nd) (ek ea fk fa : Int) : Prop := cR os chE 7 2 a x r d n q (encErr ek ea) us zs m (encErr fk fa)
def cR8N (os : Orc) (a : Int) (x : ByteArray) (r : List AV) (d : Int) (n q : Nd) (us zs : List AV) (m : Nd) : Prop := cR os chE 8 3 a x r d n q nilE us zs m nilE
def cR8F (os : Orc) (a : Int) (x : ByteArray) (r : List AV) (d : Int) (n q : Nd) (us zs : List AV) (m : Nd) (fk fa : Int) : Prop := cR os chE 8 3 a x r d n q nilE us zs m (encErr fk fa)
def cR8E (os : Orc) (a : Int) (x : ByteArray) (r : List AV) (d : Int) (n q : Nd) (us zs : List AV) (m : Nd) (ek ea fk fa : Int) : Prop := cR os chE 8 3 a x r d n q (encErr ek ea) us zs m (encErr fk fa)
def cR9N (os : Orc) (a : Int) (x : ByteArray) (r : List AV) (d : Int) (n q : Nd) (us zs : List AV) (m : Nd) : Prop := cR os chT 9 4 a x r d n q nilE us zs m nilE
def cR9F (os : Orc) (a : Int) (x : ByteArray) (r : List AV) (d : Int) (n q : Nd) (us zs : List AV) (m : Nd) (fk fa : Int) : Prop := cR os chT 9 4 a x r d n q nilE us zs m (encErr fk fa)
def cR9E (os : Orc) (a : Int) (x : ByteArray) (r : List AV) (d : Int) (n q : Nd) (us zs : List AV) (m : Nd) (ek ea fk fa : Int) : Prop := cR os chT 9 4 a x r d n q (encErr ek ea) us zs m (encErr fk fa)
def gCh (os : Orc) (f : Nat) (c : Ch) (ts us : List AV) (d : Int) (q : Nd) (e : AV) (zs : List AV) (m : Nd) (ef : AV) : Prop :=
 gP ((XC c ts us d (encP q) e).addLp fPChain 0 (lpCh c True us d (encP q) e (cOut c zs d (encP m) ef))) f os ts zs d (encP m) ef
def gExN (os : Orc) (ts us : List AV) (d : Int) (q : Nd) (zs : List AV) (m : Nd) : Prop := gCh os fPExpr chE ts us d q nilE zs m nilE
def gExF (os : Orc) (ts us : List AV) (d : Int) (q : Nd) (zs : List AV) (m : Nd) (fk fa : Int) : Prop := gCh os fPExpr chE ts us d q nilE zs m (encErr fk fa)
def gExE (os : Orc) (ts us : List AV) (d : Int) (q : Nd) (zs : List AV) (m : Nd) (ek ea fk fa : Int) : Prop := gCh os fPExpr chE ts us d q (encErr ek ea) zs m (encErr fk fa)
def gTeN (os : Orc) (ts us : List AV) (d : Int) (q : Nd) (zs : List AV) (m : Nd) : Prop := gCh os fPTerm chT ts us d q nilE zs m nilE
def gTeF (os : Orc) (ts us : List AV) (d : Int) (q : Nd) (zs : List AV) (m : Nd) (fk fa : Int) : Prop := gCh os fPTerm chT ts us d q nilE zs m (encErr fk fa)
def gTeE (os : Orc) (ts us : List AV) (d : Int) (q : Nd) (zs : List AV) (m : Nd) (ek ea fk fa : Int) : Prop := gCh os fPTerm chT ts us d q (encErr ek ea) zs m (encErr fk fa)
end
end Go.Proofs.YtpofhijgccocpaaDoor
end
section
namespace Go.Proofs.YtpofhijgccocpaaDoor
open Go Go.AS Go.TP
noncomputable abbrev qVP20 := eR 1048578 [1, 0] 5 [AV.agg [i0 (0 : Int), i0 (0 : Int), i0 (0 : Int), s0 ByteArray.empty, AV.lit (Value.slice none 0 0)]]
noncomputable abbrev qVP21 := [Value.int IntKind.i64 (7 : Int), Value.int IntKind.i64 (8 : Int)]
noncomputable abbrev qVP22 := [AV.ptr 1048580 [3, 0] 0 0, AV.mp 1048579 [2, 0], AV.fn (Fn.func 29) [AV.ptr 1048580 [3, 0] 0 0] [], AV.ptr 1048578 [1, 0] 0 0, AV.ptr 1048577 [0, 0] 0 0, AV.lit Value.nilIface]
noncomputable abbrev qVP23 (fa : Int) (fk : Int) := (AV.tup [AV.ptr 1048578 [1, 0] 0 0, AV.ptr 1048577 [0, 0] 0 0, AV.iface 76 (AV.ref (AV.agg [i0 fa, AV.iface 59 (i0 fk)]))])
noncomputable abbrev qVP24 := [AV.ptr 1048580 [3, 0] 0 0, AV.mp 1048579 [2, 0], AV.fn (Fn.func 43) [AV.ptr 1048580 [3, 0] 0 0] [], AV.ptr 1048578 [1, 0] 0 0, AV.ptr 1048577 [0, 0] 0 0, AV.lit Value.nilIface]
noncomputable abbrev qVP25 (us : List AV) (d : Int) := eR 1048580 [3, 0] 2 [AV.agg [AV.lst false 3 us, i0 d]]
noncomputable abbrev qVP26 := (true && (true && (true && (true && Option.isSome (some ())))))
noncomputable abbrev qVP27 (ea : Int) (ek : Int) := [AV.ptr 1048580 [3, 0] 0 0, AV.mp 1048579 [2, 0], AV.fn (Fn.func 29) [AV.ptr 1048580 [3, 0] 0 0] [], AV.ptr 1048578 [1, 0] 0 0, AV.ptr 1048577 [0, 0] 0 0, AV.iface 76 (AV.ref (AV.agg [i0 ea, AV.iface 59 (i0 ek)]))]
noncomputable abbrev qVP28 (ts : List AV) (d : Int) := (True ∧ Wks [AV.ptr 1048577 [0, 0] 0 0] [AV.ptr 1048577 [0, 0] 0 0] ∧ hpL [eR 1048577 [0, 0] 2 [AV.agg [AV.lst false 3 ts, i0 d]]] = hpL [eR 1048577 [0, 0] 2 [AV.agg [AV.lst false 3 ts, i0 d]]])
noncomputable abbrev qVP29 := (AV.tup [AV.ptr 1048578 [1, 0] 0 0, AV.ptr 1048577 [0, 0] 0 0, AV.lit Value.nilIface])
noncomputable abbrev qVP210 (zs : List AV) (d : Int) := eR 1048580 [3, 0] 2 [AV.agg [AV.lst false 3 zs, i0 d]]
noncomputable abbrev qVP211 (k : Int) (a : Int) (x : ByteArray) (r : List AV) (d : Int) := (True ∧ Wks [AV.ptr 1048577 [0, 0] 0 0] [AV.ptr 1048577 [0, 0] 0 0] ∧ hpL [eR 1048577 [0, 0] 2 [AV.agg [AV.lst false 3 (AV.agg [i0 k, i0 a, s0 x] :: r), i0 d]]] = hpL [eR 1048577 [0, 0] 2 [AV.agg [AV.lst false 3 (AV.agg [i0 k, i0 a, s0 x] :: r), i0 d]]])
noncomputable abbrev qVP212 (ea : Int) (ek : Int) := [AV.ptr 1048580 [3, 0] 0 0, AV.mp 1048579 [2, 0], AV.fn (Fn.func 43) [AV.ptr 1048580 [3, 0] 0 0] [], AV.ptr 1048578 [1, 0] 0 0, AV.ptr 1048577 [0, 0] 0 0, AV.iface 76 (AV.ref (AV.agg [i0 ea, AV.iface 59 (i0 ek)]))]
noncomputable abbrev qVP213 (zs : List AV) (d : Int) := (hpL [eR 1048577 [0, 0] 2 [AV.agg [AV.lst false 3 zs, i0 d]]])
theorem kTake_vc (a : Int) (x : ByteArray) (r : List AV) (d : Int) : kTake (Orc.t Orc.z) a x r d = (let z1 := [i0 (5 : Int), i0 a, s0 x]; Yt ((decide ((0 : Int) ≤ (1 : Int) ∧ (1 : Int) ≤ (↑(List.length (AV.agg z1 :: r)) : Int)) && true) = true ∧ Wk (AV.agg z1) (AV.agg z1) ∧ SameH (hpL [eR 1048577 [0, 0] 2 [AV.agg [AV.lst false 3 (List.drop 1 (AV.agg z1 :: r)), i0 d]]]) (hpL [eR 1048577 [0, 0] 2 [AV.agg [AV.lst false 3 r, i0 d]]]))) := by kernel_rfl
theorem uD_vc (a : Int) (x : ByteArray) (r : List AV) : uD (Orc.t (Orc.f Orc.z)) a x r = (let z1 := (hpL [eR 1048577 [0, 0] 2 [AV.agg [AV.lst false 3 r, i0 (24 : Int)]]]); let z2 := AV.iface 76 (AV.ref (AV.agg [i0 a, AV.iface 59 (i0 (16 : Int))])); Yt (Nf (Wk (AV.tup [AV.agg [i0 (6 : Int), i0 a, i0 (0 : Int), s0 ⟨⟨[]⟩⟩, AV.lit (Value.slice none 0 0)], z2]) (AV.tup [AV.agg [i0 (6 : Int), i0 a, i0 (0 : Int), s0 ByteArray.empty, AV.lst false 5 []], z2]) ∧ SameH z1 z1))) := by kernel_rfl
theorem uN_vc (a : Int) (x : ByteArray) (r : List AV) (d : Int) (q : Nd) (ts' : List AV) : uN (Orc.f Orc.z) a x r d q ts' = (let z1 := [eR 1048577 [0, 0] 2 [AV.agg [AV.lst false 3 r, i0 (d + (1 : Int))]]]; (d == (24 : Int)) = false ∧ inR IntKind.i64 (d + (1 : Int)) = true ∧ U1 [AV.ptr 1048577 [0, 0] 0 0] z1 (inR IntKind.i64 (d + (1 : Int) - (1 : Int)) = true ∧ Wk (AV.tup [AV.agg [i0 (6 : Int), i0 a, i0 (0 : Int), s0 ⟨⟨[]⟩⟩, AV.lst true 5 [encP q]], AV.lit Value.nilIface]) (AV.tup [AV.agg [i0 (6 : Int), i0 a, i0 (0 : Int), s0 ByteArray.empty, AV.lst false 5 [encP q]], AV.lit Value.nilIface]) ∧ SameH (hpL [eR 1048577 [0, 0] 2 [AV.agg [AV.lst false 3 ts', i0 (d + (1 : Int) - (1 : Int))]]]) (hpL [eR 1048577 [0, 0] 2 [AV.agg [AV.lst false 3 ts', i0 d]]]))) := by kernel_rfl
theorem uE_vc (a : Int) (x : ByteArray) (r : List AV) (d : Int) (q : Nd) (ek ea : Int) (ts' : List AV) : uE (Orc.f Orc.z) a x r d q ek ea ts' = (let z1 := [eR 1048577 [0, 0] 2 [AV.agg [AV.lst false 3 r, i0 (d + (1 : Int))]]]; let z2 := AV.iface 76 (AV.ref (AV.agg [i0 ea, AV.iface 59 (i0 ek)])); (d == (24 : Int)) = false ∧ inR IntKind.i64 (d + (1 : Int)) = true ∧ U1 [AV.ptr 1048577 [0, 0] 0 0] z1 (inR IntKind.i64 (d + (1 : Int) - (1 : Int)) = true ∧ Wk (AV.tup [AV.agg [i0 (6 : Int), i0 a, i0 (0 : Int), s0 ⟨⟨[]⟩⟩, AV.lst true 5 [encP q]], z2]) (AV.tup [AV.agg [i0 (6 : Int), i0 a, i0 (0 : Int), s0 ByteArray.empty, AV.lst false 5 [encP q]], z2]) ∧ SameH (hpL [eR 1048577 [0, 0] 2 [AV.agg [AV.lst false 3 ts', i0 (d + (1 : Int) - (1 : Int))]]]) (hpL [eR 1048577 [0, 0] 2 [AV.agg [AV.lst false 3 ts', i0 d]]]))) := by kernel_rfl
theorem rUpN_vc (a : Int) (x : ByteArray) (r : List AV) (d : Int) (q : Nd) (ts' : List AV) : rUpN (Orc.t Orc.z) a x r d q ts' = (let z1 := [eR 1048577 [0, 0] 2 [AV.agg [AV.lst false 3 (AV.agg [i0 (5 : Int), i0 a, s0 x] :: r), i0 d]]]; let z2 := AV.ptr 1048577 [0, 0] 0 0; let z3 := (hpL [eR 1048577 [0, 0] 2 [AV.agg [AV.lst false 3 ts', i0 d]]]); let z4 := [eR 1048577 [0, 0] 2 [AV.agg [AV.lst false 3 r, i0 d]]]; let z5 := (AV.tup [encP q, AV.lit Value.nilIface]); let z6 := [z2, AV.agg [i0 (5 : Int), i0 a, s0 x]]; Yt (U1 [z2] z1 (U1 z6 z4 (Wk z5 z5 ∧ SameH z3 z3)))) := by kernel_rfl
theorem rUpE_vc (a : Int) (x : ByteArray) (r : List AV) (d : Int) (q : Nd) (ek ea : Int) (ts' : List AV) : rUpE (Orc.t Orc.z) a x r d q ek ea ts' = (let z1 := [eR 1048577 [0, 0] 2 [AV.agg [AV.lst false 3 (AV.agg [i0 (5 : Int), i0 a, s0 x] :: r), i0 d]]]; let z2 := (AV.tup [encP q, AV.iface 76 (AV.ref (AV.agg [i0 ea, AV.iface 59 (i0 ek)]))]); let z3 := AV.ptr 1048577 [0, 0] 0 0; let z4 := (hpL [eR 1048577 [0, 0] 2 [AV.agg [AV.lst false 3 ts', i0 d]]]); let z5 := [eR 1048577 [0, 0] 2 [AV.agg [AV.lst false 3 r, i0 d]]]; let z6 := [z3, AV.agg [i0 (5 : Int), i0 a, s0 x]]; Yt (U1 [z3] z1 (U1 z6 z5 (Wk z2 z2 ∧ SameH z4 z4)))) := by kernel_rfl
theorem rAtE_vc (k a : Int) (x : ByteArray) (r : List AV) (d : Int) (q : Nd) (ek ea : Int) (ts' : List AV) : rAtE (Orc.f (Orc.t Orc.z)) k a x r d q ek ea ts' = (let z1 := [eR 1048577 [0, 0] 2 [AV.agg [AV.lst false 3 (AV.agg [i0 k, i0 a, s0 x] :: r), i0 d]]]; let z2 := (AV.tup [encP q, AV.iface 76 (AV.ref (AV.agg [i0 ea, AV.iface 59 (i0 ek)]))]); let z3 := (hpL [eR 1048577 [0, 0] 2 [AV.agg [AV.lst false 3 ts', i0 d]]]); (k == (5 : Int)) = false ∧ U1 [AV.ptr 1048577 [0, 0] 0 0] z1 (Yt (Wk z2 z2 ∧ SameH z3 z3))) := by kernel_rfl
def orAt0 : Orc := Orc.f (Orc.f (Orc.f (Orc.f Orc.z)))
theorem rAt0_vc (k a : Int) (x : ByteArray) (r : List AV) (d : Int) (q : Nd) (k' a' : Int) (x' : ByteArray) (r' : List AV) : rAt0 orAt0 k a x r d q k' a' x' r' = (let z1 := (hpL [eR 1048577 [0, 0] 2 [AV.agg [AV.lst false 3 (AV.agg [i0 k', i0 a', s0 x'] :: r'), i0 d]]]); let z2 := (AV.tup [encP q, AV.lit Value.nilIface]); (k == (5 : Int)) = false ∧ ∃ (_ : Unit), (qVP211 k a x r d) ∧ Nf ((k' == (5 : Int)) = false ∧ (k' == (6 : Int)) = false ∧ Wk z2 z2 ∧ SameH z1 z1)) := by kernel_rfl
def orBetD : Orc := Orc.f (Orc.f (Orc.t (Orc.t (Orc.t (Orc.f Orc.z)))))
theorem rBetD_vc (k a : Int) (x : ByteArray) (r : List AV) (q : Nd) (a' : Int) (x' : ByteArray) (r' : List AV) : rBetD orBetD k a x r q a' x' r' = (let z1 := [eR 1048577 [0, 0] 2 [AV.agg [AV.lst false 3 (AV.agg [i0 k, i0 a, s0 x] :: r), i0 (24 : Int)]]]; let z2 := AV.iface 76 (AV.ref (AV.agg [i0 a', AV.iface 59 (i0 (16 : Int))])); let z3 := (AV.agg [i0 (5 : Int), i0 a', s0 x'] :: r'); (k == (5 : Int)) = false ∧ U1 [AV.ptr 1048577 [0, 0] 0 0] z1 (Nf (Yt (Yt ((decide ((0 : Int) ≤ (1 : Int) ∧ (1 : Int) ≤ (↑(List.length z3) : Int)) && Nat.beq 3 3) = true ∧ Yt (Nf (Wk (AV.tup [AV.agg [i0 (8 : Int), i0 a', i0 (0 : Int), s0 ⟨⟨[]⟩⟩, AV.lst true 5 [encP q]], z2]) (AV.tup [AV.agg [i0 (8 : Int), i0 a', i0 (0 : Int), s0 ByteArray.empty, AV.lst false 5 [encP q]], z2]) ∧ SameH (hpL [eR 1048577 [0, 0] 2 [AV.agg [AV.lst false 3 (List.drop 1 z3), i0 (24 : Int)]]]) (hpL [eR 1048577 [0, 0] 2 [AV.agg [AV.lst false 3 r', i0 (24 : Int)]]])))))))) := by kernel_rfl
def orDown : Orc := Orc.f (Orc.f (Orc.t (Orc.t (Orc.f (HT (Orc.f (Orc.f (Orc.t (Orc.t Orc.z)))))))))
theorem rDown_vc (k a : Int) (x : ByteArray) (r : List AV) (d : Int) (q : Nd) (a' : Int) (x' : ByteArray) (k2 a2 : Int) (x2 : ByteArray) (r' : List AV) : rDown orDown k a x r d q a' x' k2 a2 x2 r' = (let z1 := AV.lst false 3 (AV.agg [i0 k2, i0 a2, s0 x2] :: r'); (k == (5 : Int)) = false ∧ ∃ (_ : Unit), (qVP211 k a x r d) ∧ Nf (Yt (Yt ((decide ((0 : Int) ≤ (1 : Int) ∧ (1 : Int) ≤ (↑(List.length (AV.agg [i0 (5 : Int), i0 a', s0 x'] :: AV.agg [i0 k2, i0 a2, s0 x2] :: r')) : Int)) && Nat.beq 3 3) = true ∧ (d == (24 : Int)) = false ∧ inR IntKind.i64 (d + (1 : Int)) = true ∧ Yt4 ((k2 == (2 : Int)) = false ∧ (k2 == (1 : Int)) = false ∧ Yt (Yt (inR IntKind.i64 (d + (1 : Int) - (1 : Int)) = true ∧ Wk (AV.tup [AV.agg [i0 (7 : Int), i0 a', i0 (0 : Int), s0 ⟨⟨[]⟩⟩, AV.lst true 5 [encP q]], AV.lit Value.nilIface]) (AV.tup [AV.agg [i0 (7 : Int), i0 a', i0 (0 : Int), s0 ByteArray.empty, AV.lst false 5 [encP q]], AV.lit Value.nilIface]) ∧ SameH (hpL [eR 1048577 [0, 0] 2 [AV.agg [z1, i0 (d + (1 : Int) - (1 : Int))]]]) (hpL [eR 1048577 [0, 0] 2 [AV.agg [z1, i0 d]]])))))))) := by kernel_rfl
def orBet2N : Orc := Orc.f (Orc.alt 0 (Orc.f (Orc.t (Orc.t (Orc.f (HT (Orc.t (Orc.t (Orc.f (Orc.alt 1 Orc.z))))))))))
theorem rBet2N_vc (k a : Int) (x : ByteArray) (r : List AV) (d : Int) (q : Nd) (a' : Int) (x' : ByteArray) (a2 : Int) (x2 : ByteArray) (r' : List AV) (q2 : Nd) (ts' : List AV) : rBet2N orBet2N k a x r d q a' x' a2 x2 r' q2 ts' = (let z1 := [encP q, encP q2]; let z2 := [eR 1048577 [0, 0] 2 [AV.agg [AV.lst false 3 (AV.agg [i0 (2 : Int), i0 a2, s0 x2] :: r'), i0 (d + (1 : Int))]]]; let z3 := [eR 1048577 [0, 0] 2 [AV.agg [AV.lst false 3 (AV.agg [i0 k, i0 a, s0 x] :: r), i0 d]]]; let z4 := [AV.ptr 1048577 [0, 0] 0 0]; (k == (5 : Int)) = false ∧ U1 z4 z3 (Nf (Yt (Yt ((decide ((0 : Int) ≤ (1 : Int) ∧ (1 : Int) ≤ (↑(List.length (AV.agg [i0 (5 : Int), i0 a', s0 x'] :: AV.agg [i0 (2 : Int), i0 a2, s0 x2] :: r')) : Int)) && Nat.beq 3 3) = true ∧ (d == (24 : Int)) = false ∧ inR IntKind.i64 (d + (1 : Int)) = true ∧ Yt4 (Yt (Yt (Nf (U1 z4 z2 (decide (List.length z1 * 64 ≤ 140737488355328 ∧ List.length z1 ≤ 1152921504606846976) = true ∧ inR IntKind.i64 (d + (1 : Int) - (1 : Int)) = true ∧ 0 + List.length z1 ≤ List.length z1 ∧ 0 + List.length z1 ≤ List.length z1 ∧ 0 + List.length z1 ≤ List.length z1 ∧ 0 + List.length z1 ≤ List.length z1 ∧ 0 + List.length z1 ≤ List.length z1 ∧ Wk (AV.tup [AV.agg [i0 (8 : Int), i0 a', i0 (0 : Int), s0 ⟨⟨[]⟩⟩, AV.lst false 5 z1], AV.lit Value.nilIface]) (AV.tup [AV.agg [i0 (8 : Int), i0 a', i0 (0 : Int), s0 ByteArray.empty, AV.lst false 5 z1], AV.lit Value.nilIface]) ∧ SameH (hpL [eR 1048577 [0, 0] 2 [AV.agg [AV.lst false 3 ts', i0 (d + (1 : Int) - (1 : Int))]]]) (hpL [eR 1048577 [0, 0] 2 [AV.agg [AV.lst false 3 ts', i0 d]]]))))))))))) := by kernel_rfl
def orBet2E : Orc := Orc.f (Orc.alt 0 (Orc.f (Orc.t (Orc.t (Orc.f (HT (Orc.t (Orc.t (Orc.f (Orc.alt 1 Orc.z))))))))))
theorem rBet2E_vc (k a : Int) (x : ByteArray) (r : List AV) (d : Int) (q : Nd) (a' : Int) (x' : ByteArray) (a2 : Int) (x2 : ByteArray) (r' : List AV) (q2 : Nd) (ek ea : Int) (ts' : List AV) : rBet2E orBet2E k a x r d q a' x' a2 x2 r' q2 ek ea ts' = (let z1 := [encP q, encP q2]; let z2 := [eR 1048577 [0, 0] 2 [AV.agg [AV.lst false 3 (AV.agg [i0 (2 : Int), i0 a2, s0 x2] :: r'), i0 (d + (1 : Int))]]]; let z3 := [eR 1048577 [0, 0] 2 [AV.agg [AV.lst false 3 (AV.agg [i0 k, i0 a, s0 x] :: r), i0 d]]]; let z4 := [AV.ptr 1048577 [0, 0] 0 0]; let z5 := AV.iface 76 (AV.ref (AV.agg [i0 ea, AV.iface 59 (i0 ek)])); (k == (5 : Int)) = false ∧ U1 z4 z3 (Nf (Yt (Yt ((decide ((0 : Int) ≤ (1 : Int) ∧ (1 : Int) ≤ (↑(List.length (AV.agg [i0 (5 : Int), i0 a', s0 x'] :: AV.agg [i0 (2 : Int), i0 a2, s0 x2] :: r')) : Int)) && Nat.beq 3 3) = true ∧ (d == (24 : Int)) = false ∧ inR IntKind.i64 (d + (1 : Int)) = true ∧ Yt4 (Yt (Yt (Nf (U1 z4 z2 (decide (List.length z1 * 64 ≤ 140737488355328 ∧ List.length z1 ≤ 1152921504606846976) = true ∧ inR IntKind.i64 (d + (1 : Int) - (1 : Int)) = true ∧ 0 + List.length z1 ≤ List.length z1 ∧ 0 + List.length z1 ≤ List.length z1 ∧ 0 + List.length z1 ≤ List.length z1 ∧ 0 + List.length z1 ≤ List.length z1 ∧ 0 + List.length z1 ≤ List.length z1 ∧ Wk (AV.tup [AV.agg [i0 (8 : Int), i0 a', i0 (0 : Int), s0 ⟨⟨[]⟩⟩, AV.lst false 5 z1], z5]) (AV.tup [AV.agg [i0 (8 : Int), i0 a', i0 (0 : Int), s0 ByteArray.empty, AV.lst false 5 z1], z5]) ∧ SameH (hpL [eR 1048577 [0, 0] 2 [AV.agg [AV.lst false 3 ts', i0 (d + (1 : Int) - (1 : Int))]]]) (hpL [eR 1048577 [0, 0] 2 [AV.agg [AV.lst false 3 ts', i0 d]]]))))))))))) := by kernel_rfl
def orBet1N : Orc := Orc.f (Orc.alt 0 (Orc.f (Orc.t (Orc.t (Orc.f (HT (Orc.f (Orc.t (Orc.t (Orc.f (Orc.alt 1 Orc.z)))))))))))
theorem rBet1N_vc (k a : Int) (x : ByteArray) (r : List AV) (d : Int) (q : Nd) (a' : Int) (x' : ByteArray) (a2 : Int) (x2 : ByteArray) (r' : List AV) (q2 : Nd) (ts' : List AV) : rBet1N orBet1N k a x r d q a' x' a2 x2 r' q2 ts' = (let z1 := [encP q, encP q2]; let z2 := [eR 1048577 [0, 0] 2 [AV.agg [AV.lst false 3 (AV.agg [i0 (1 : Int), i0 a2, s0 x2] :: r'), i0 (d + (1 : Int))]]]; let z3 := [eR 1048577 [0, 0] 2 [AV.agg [AV.lst false 3 (AV.agg [i0 k, i0 a, s0 x] :: r), i0 d]]]; let z4 := [AV.ptr 1048577 [0, 0] 0 0]; (k == (5 : Int)) = false ∧ U1 z4 z3 (Nf (Yt (Yt ((decide ((0 : Int) ≤ (1 : Int) ∧ (1 : Int) ≤ (↑(List.length (AV.agg [i0 (5 : Int), i0 a', s0 x'] :: AV.agg [i0 (1 : Int), i0 a2, s0 x2] :: r')) : Int)) && Nat.beq 3 3) = true ∧ (d == (24 : Int)) = false ∧ inR IntKind.i64 (d + (1 : Int)) = true ∧ Yt4 (Nf (Yt (Yt (Nf (U1 z4 z2 (decide (List.length z1 * 64 ≤ 140737488355328 ∧ List.length z1 ≤ 1152921504606846976) = true ∧ inR IntKind.i64 (d + (1 : Int) - (1 : Int)) = true ∧ 0 + List.length z1 ≤ List.length z1 ∧ 0 + List.length z1 ≤ List.length z1 ∧ 0 + List.length z1 ≤ List.length z1 ∧ 0 + List.length z1 ≤ List.length z1 ∧ 0 + List.length z1 ≤ List.length z1 ∧ Wk (AV.tup [AV.agg [i0 (8 : Int), i0 a', i0 (0 : Int), s0 ⟨⟨[]⟩⟩, AV.lst false 5 z1], AV.lit Value.nilIface]) (AV.tup [AV.agg [i0 (8 : Int), i0 a', i0 (0 : Int), s0 ByteArray.empty, AV.lst false 5 z1], AV.lit Value.nilIface]) ∧ SameH (hpL [eR 1048577 [0, 0] 2 [AV.agg [AV.lst false 3 ts', i0 (d + (1 : Int) - (1 : Int))]]]) (hpL [eR 1048577 [0, 0] 2 [AV.agg [AV.lst false 3 ts', i0 d]]])))))))))))) := by kernel_rfl
def orBet1E : Orc := Orc.f (Orc.alt 0 (Orc.f (Orc.t (Orc.t (Orc.f (HT (Orc.f (Orc.t (Orc.t (Orc.f (Orc.alt 1 Orc.z)))))))))))
theorem rBet1E_vc (k a : Int) (x : ByteArray) (r : List AV) (d : Int) (q : Nd) (a' : Int) (x' : ByteArray) (a2 : Int) (x2 : ByteArray) (r' : List AV) (q2 : Nd) (ek ea : Int) (ts' : List AV) : rBet1E orBet1E k a x r d q a' x' a2 x2 r' q2 ek ea ts' = (let z1 := [encP q, encP q2]; let z2 := [eR 1048577 [0, 0] 2 [AV.agg [AV.lst false 3 (AV.agg [i0 (1 : Int), i0 a2, s0 x2] :: r'), i0 (d + (1 : Int))]]]; let z3 := [eR 1048577 [0, 0] 2 [AV.agg [AV.lst false 3 (AV.agg [i0 k, i0 a, s0 x] :: r), i0 d]]]; let z4 := [AV.ptr 1048577 [0, 0] 0 0]; let z5 := AV.iface 76 (AV.ref (AV.agg [i0 ea, AV.iface 59 (i0 ek)])); (k == (5 : Int)) = false ∧ U1 z4 z3 (Nf (Yt (Yt ((decide ((0 : Int) ≤ (1 : Int) ∧ (1 : Int) ≤ (↑(List.length (AV.agg [i0 (5 : Int), i0 a', s0 x'] :: AV.agg [i0 (1 : Int), i0 a2, s0 x2] :: r')) : Int)) && Nat.beq 3 3) = true ∧ (d == (24 : Int)) = false ∧ inR IntKind.i64 (d + (1 : Int)) = true ∧ Yt4 (Nf (Yt (Yt (Nf (U1 z4 z2 (decide (List.length z1 * 64 ≤ 140737488355328 ∧ List.length z1 ≤ 1152921504606846976) = true ∧ inR IntKind.i64 (d + (1 : Int) - (1 : Int)) = true ∧ 0 + List.length z1 ≤ List.length z1 ∧ 0 + List.length z1 ≤ List.length z1 ∧ 0 + List.length z1 ≤ List.length z1 ∧ 0 + List.length z1 ≤ List.length z1 ∧ 0 + List.length z1 ≤ List.length z1 ∧ Wk (AV.tup [AV.agg [i0 (8 : Int), i0 a', i0 (0 : Int), s0 ⟨⟨[]⟩⟩, AV.lst false 5 z1], z5]) (AV.tup [AV.agg [i0 (8 : Int), i0 a', i0 (0 : Int), s0 ByteArray.empty, AV.lst false 5 z1], z5]) ∧ SameH (hpL [eR 1048577 [0, 0] 2 [AV.agg [AV.lst false 3 ts', i0 (d + (1 : Int) - (1 : Int))]]]) (hpL [eR 1048577 [0, 0] 2 [AV.agg [AV.lst false 3 ts', i0 d]]])))))))))))) := by kernel_rfl
def orOnlyN : Orc := Orc.f (Orc.alt 0 (Orc.f (Orc.f (Orc.t (Orc.t (HF (Orc.f (Orc.f (Orc.alt 1 Orc.z)))))))))
theorem rOnlyN_vc (k a : Int) (x : ByteArray) (r : List AV) (d : Int) (q : Nd) (a' : Int) (x' : ByteArray) (r' : List AV) (q2 : Nd) (ts' : List AV) : rOnlyN orOnlyN k a x r d q a' x' r' q2 ts' = (let z1 := [encP q, encP q2]; let z2 := (hpL [eR 1048577 [0, 0] 2 [AV.agg [AV.lst false 3 ts', i0 d]]]); let z3 := (AV.agg [i0 (6 : Int), i0 a', s0 x'] :: r'); (k == (5 : Int)) = false ∧ ∃ (_ : Unit), (qVP211 k a x r d) ∧ Nf (Nf (Yt (Yt ((decide ((0 : Int) ≤ (1 : Int) ∧ (1 : Int) ≤ (↑(List.length z3) : Int)) && Nat.beq 3 3) = true ∧ Nf4 (Nf (Nf (∃ (_ : Unit), (True ∧ Wks [AV.ptr 1048577 [0, 0] 0 0] [AV.ptr 1048577 [0, 0] 0 0] ∧ hpL [eR 1048577 [0, 0] 2 [AV.agg [AV.lst false 3 (List.drop 1 z3), i0 d]]] = hpL [eR 1048577 [0, 0] 2 [AV.agg [AV.lst false 3 r', i0 d]]]) ∧ decide (List.length z1 * 64 ≤ 140737488355328 ∧ List.length z1 ≤ 1152921504606846976) = true ∧ 0 + List.length z1 ≤ List.length z1 ∧ 0 + List.length z1 ≤ List.length z1 ∧ 0 + List.length z1 ≤ List.length z1 ∧ 0 + List.length z1 ≤ List.length z1 ∧ Wk (AV.tup [AV.agg [i0 (9 : Int), i0 a', i0 (0 : Int), s0 ⟨⟨[]⟩⟩, AV.lst false 5 z1], AV.lit Value.nilIface]) (AV.tup [AV.agg [i0 (9 : Int), i0 a', i0 (0 : Int), s0 ByteArray.empty, AV.lst false 5 z1], AV.lit Value.nilIface]) ∧ SameH z2 z2)))))))) := by kernel_rfl
def orOnlyE : Orc := Orc.f (Orc.alt 0 (Orc.f (Orc.f (Orc.t (Orc.t (HF (Orc.f (Orc.f (Orc.alt 1 Orc.z)))))))))
theorem rOnlyE_vc (k a : Int) (x : ByteArray) (r : List AV) (d : Int) (q : Nd) (a' : Int) (x' : ByteArray) (r' : List AV) (q2 : Nd) (ek ea : Int) (ts' : List AV) : rOnlyE orOnlyE k a x r d q a' x' r' q2 ek ea ts' = (let z1 := [encP q, encP q2]; let z2 := [eR 1048577 [0, 0] 2 [AV.agg [AV.lst false 3 (AV.agg [i0 k, i0 a, s0 x] :: r), i0 d]]]; let z3 := [AV.ptr 1048577 [0, 0] 0 0]; let z4 := (hpL [eR 1048577 [0, 0] 2 [AV.agg [AV.lst false 3 ts', i0 d]]]); let z5 := AV.iface 76 (AV.ref (AV.agg [i0 ea, AV.iface 59 (i0 ek)])); let z6 := (AV.agg [i0 (6 : Int), i0 a', s0 x'] :: r'); (k == (5 : Int)) = false ∧ U1 z3 z2 (Nf (Nf (Yt (Yt ((decide ((0 : Int) ≤ (1 : Int) ∧ (1 : Int) ≤ (↑(List.length z6) : Int)) && Nat.beq 3 3) = true ∧ Nf4 (Nf (Nf (∃ (_ : Unit), (True ∧ Wks z3 z3 ∧ hpL [eR 1048577 [0, 0] 2 [AV.agg [AV.lst false 3 (List.drop 1 z6), i0 d]]] = hpL [eR 1048577 [0, 0] 2 [AV.agg [AV.lst false 3 r', i0 d]]]) ∧ decide (List.length z1 * 64 ≤ 140737488355328 ∧ List.length z1 ≤ 1152921504606846976) = true ∧ 0 + List.length z1 ≤ List.length z1 ∧ 0 + List.length z1 ≤ List.length z1 ∧ 0 + List.length z1 ≤ List.length z1 ∧ 0 + List.length z1 ≤ List.length z1 ∧ Wk (AV.tup [AV.agg [i0 (9 : Int), i0 a', i0 (0 : Int), s0 ⟨⟨[]⟩⟩, AV.lst false 5 z1], z5]) (AV.tup [AV.agg [i0 (9 : Int), i0 a', i0 (0 : Int), s0 ByteArray.empty, AV.lst false 5 z1], z5]) ∧ SameH z4 z4))))))))) := by kernel_rfl
def otNotD : Orc := Orc.f (Orc.t (Orc.t (Orc.f Orc.z)))
theorem tNotD_vc (a : Int) (x : ByteArray) (r : List AV) : tNotD otNotD a x r = (let z1 := AV.iface 76 (AV.ref (AV.agg [i0 a, AV.iface 59 (i0 (16 : Int))])); let z2 := (AV.agg [i0 (10 : Int), i0 a, s0 x] :: r); Nf (Yt ((decide ((0 : Int) ≤ (1 : Int) ∧ (1 : Int) ≤ (↑(List.length z2) : Int)) && true) = true ∧ Yt (Nf (Wk (AV.tup [AV.agg [i0 (5 : Int), i0 a, i0 (0 : Int), s0 ⟨⟨[]⟩⟩, AV.lit (Value.slice none 0 0)], z1]) (AV.tup [AV.agg [i0 (5 : Int), i0 a, i0 (0 : Int), s0 ByteArray.empty, AV.lst false 5 []], z1]) ∧ SameH (hpL [eR 1048577 [0, 0] 2 [AV.agg [AV.lst false 3 (List.drop 1 z2), i0 (24 : Int)]]]) (hpL [eR 1048577 [0, 0] 2 [AV.agg [AV.lst false 3 r, i0 (24 : Int)]]])))))) := by kernel_rfl
theorem tNotN_vc (a : Int) (x : ByteArray) (r : List AV) (d : Int) (q : Nd) (ts' : List AV) : tNotN (Orc.f (Orc.t (Orc.f Orc.z))) a x r d q ts' = (let z1 := (AV.agg [i0 (10 : Int), i0 a, s0 x] :: r); Nf (Yt ((decide ((0 : Int) ≤ (1 : Int) ∧ (1 : Int) ≤ (↑(List.length z1) : Int)) && Nat.beq 3 3) = true ∧ (d == (24 : Int)) = false ∧ inR IntKind.i64 (d + (1 : Int)) = true ∧ ∃ (_ : Unit), (True ∧ Wks [AV.ptr 1048577 [0, 0] 0 0] [AV.ptr 1048577 [0, 0] 0 0] ∧ hpL [eR 1048577 [0, 0] 2 [AV.agg [AV.lst false 3 (List.drop 1 z1), i0 (d + (1 : Int))]]] = hpL [eR 1048577 [0, 0] 2 [AV.agg [AV.lst false 3 r, i0 (d + (1 : Int))]]]) ∧ inR IntKind.i64 (d + (1 : Int) - (1 : Int)) = true ∧ Wk (AV.tup [AV.agg [i0 (5 : Int), i0 a, i0 (0 : Int), s0 ⟨⟨[]⟩⟩, AV.lst true 5 [encP q]], AV.lit Value.nilIface]) (AV.tup [AV.agg [i0 (5 : Int), i0 a, i0 (0 : Int), s0 ByteArray.empty, AV.lst false 5 [encP q]], AV.lit Value.nilIface]) ∧ SameH (hpL [eR 1048577 [0, 0] 2 [AV.agg [AV.lst false 3 ts', i0 (d + (1 : Int) - (1 : Int))]]]) (hpL [eR 1048577 [0, 0] 2 [AV.agg [AV.lst false 3 ts', i0 d]]])))) := by kernel_rfl
theorem tNotE_vc (a : Int) (x : ByteArray) (r : List AV) (d : Int) (q : Nd) (ek ea : Int) (ts' : List AV) : tNotE (Orc.f (Orc.t (Orc.f Orc.z))) a x r d q ek ea ts' = (let z1 := AV.iface 76 (AV.ref (AV.agg [i0 ea, AV.iface 59 (i0 ek)])); let z2 := (AV.agg [i0 (10 : Int), i0 a, s0 x] :: r); Nf (Yt ((decide ((0 : Int) ≤ (1 : Int) ∧ (1 : Int) ≤ (↑(List.length z2) : Int)) && Nat.beq 3 3) = true ∧ (d == (24 : Int)) = false ∧ inR IntKind.i64 (d + (1 : Int)) = true ∧ ∃ (_ : Unit), (True ∧ Wks [AV.ptr 1048577 [0, 0] 0 0] [AV.ptr 1048577 [0, 0] 0 0] ∧ hpL [eR 1048577 [0, 0] 2 [AV.agg [AV.lst false 3 (List.drop 1 z2), i0 (d + (1 : Int))]]] = hpL [eR 1048577 [0, 0] 2 [AV.agg [AV.lst false 3 r, i0 (d + (1 : Int))]]]) ∧ inR IntKind.i64 (d + (1 : Int) - (1 : Int)) = true ∧ Wk (AV.tup [AV.agg [i0 (5 : Int), i0 a, i0 (0 : Int), s0 ⟨⟨[]⟩⟩, AV.lst true 5 [encP q]], z1]) (AV.tup [AV.agg [i0 (5 : Int), i0 a, i0 (0 : Int), s0 ByteArray.empty, AV.lst false 5 [encP q]], z1]) ∧ SameH (hpL [eR 1048577 [0, 0] 2 [AV.agg [AV.lst false 3 ts', i0 (d + (1 : Int) - (1 : Int))]]]) (hpL [eR 1048577 [0, 0] 2 [AV.agg [AV.lst false 3 ts', i0 d]]])))) := by kernel_rfl
theorem tRanN_vc (k a : Int) (x : ByteArray) (r : List AV) (d : Int) (q : Nd) (ts' : List AV) : tRanN (Orc.t Orc.z) k a x r d q ts' = (let z1 := (hpL [eR 1048577 [0, 0] 2 [AV.agg [AV.lst false 3 ts', i0 d]]]); let z2 := (AV.tup [encP q, AV.lit Value.nilIface]); (k != (10 : Int)) = true ∧ ∃ (_ : Unit), (qVP211 k a x r d) ∧ Wk z2 z2 ∧ SameH z1 z1) := by kernel_rfl
theorem tRanE_vc (k a : Int) (x : ByteArray) (r : List AV) (d : Int) (q : Nd) (ek ea : Int) (ts' : List AV) : tRanE (Orc.t Orc.z) k a x r d q ek ea ts' = (let z1 := [eR 1048577 [0, 0] 2 [AV.agg [AV.lst false 3 (AV.agg [i0 k, i0 a, s0 x] :: r), i0 d]]]; let z2 := (AV.tup [encP q, AV.iface 76 (AV.ref (AV.agg [i0 ea, AV.iface 59 (i0 ek)]))]); let z3 := (hpL [eR 1048577 [0, 0] 2 [AV.agg [AV.lst false 3 ts', i0 d]]]); (k != (10 : Int)) = true ∧ U1 [AV.ptr 1048577 [0, 0] 0 0] z1 (Wk z2 z2 ∧ SameH z3 z3)) := by kernel_rfl
def ocXe : Orc := HT (Orc.t (Orc.t (Orc.f Orc.z)))
theorem cXe_vc (k a : Int) (x : ByteArray) (r : List AV) (d : Int) (n : Nd) : cXe ocXe k a x r d n = (let z1 : List (Nat × Ent) := [(1048579, { id := [2, 0], obj := AObj.map true (qVP21) [i0 (2 : Int), i0 (3 : Int)] }), eR 1048577 [0, 0] 5 [encP n], eR 1048580 [3, 0] 2 [AV.agg [AV.lst false 3 (AV.agg [i0 k, i0 a, s0 x] :: r), i0 d]], (qVP20)]; Yt4 (Yt ((qVP26) = true ∧ Yt ((lookI k (qVP21) [i0 (2 : Int), i0 (3 : Int)] != (0 : Int)) = false ∧ Ex.exit 0 = Ex.exit 0 ∧ Wk (qVP29) (qVP29) ∧ SameH (hpL z1) (hpL z1))))) := by kernel_rfl
def ocXt : Orc := HT (Orc.t (Orc.t (Orc.f Orc.z)))
theorem cXt_vc (k a : Int) (x : ByteArray) (r : List AV) (d : Int) (n : Nd) : cXt ocXt k a x r d n = (let z1 : List (Nat × Ent) := [(1048579, { id := [2, 0], obj := AObj.map true [Value.int IntKind.i64 (9 : Int)] [i0 (4 : Int)] }), eR 1048577 [0, 0] 5 [encP n], eR 1048580 [3, 0] 2 [AV.agg [AV.lst false 3 (AV.agg [i0 k, i0 a, s0 x] :: r), i0 d]], (qVP20)]; Yt4 (Yt ((qVP26) = true ∧ Yt ((lookI k [Value.int IntKind.i64 (9 : Int)] [i0 (4 : Int)] != (0 : Int)) = false ∧ Ex.exit 0 = Ex.exit 0 ∧ Wk (qVP29) (qVP29) ∧ SameH (hpL z1) (hpL z1))))) := by kernel_rfl
def ocEe : Orc := HF (Orc.f (Orc.f (Orc.f Orc.z)))
theorem cEe_vc (ts : List AV) (d : Int) (n : Nd) (ek ea : Int) : cEe ocEe ts d n ek ea = (let z1 : List (Nat × Ent) := [(1048579, { id := [2, 0], obj := AObj.map true (qVP21) [i0 (2 : Int), i0 (3 : Int)] }), eR 1048577 [0, 0] 5 [encP n], eR 1048580 [3, 0] 2 [AV.agg [AV.lst false 3 ts, i0 d]], (qVP20)]; let z2 := (AV.tup [AV.ptr 1048578 [1, 0] 0 0, AV.ptr 1048577 [0, 0] 0 0, AV.iface 76 (AV.ref (AV.agg [i0 ea, AV.iface 59 (i0 ek)]))]); Nf4 (Nf (Nf (Nf (Ex.exit 0 = Ex.exit 0 ∧ Wk z2 z2 ∧ SameH (hpL z1) (hpL z1)))))) := by kernel_rfl
def ocEt : Orc := HF (Orc.f (Orc.f (Orc.f Orc.z)))
theorem cEt_vc (ts : List AV) (d : Int) (n : Nd) (ek ea : Int) : cEt ocEt ts d n ek ea = (let z1 : List (Nat × Ent) := [(1048579, { id := [2, 0], obj := AObj.map true [Value.int IntKind.i64 (9 : Int)] [i0 (4 : Int)] }), eR 1048577 [0, 0] 5 [encP n], eR 1048580 [3, 0] 2 [AV.agg [AV.lst false 3 ts, i0 d]], (qVP20)]; let z2 := (AV.tup [AV.ptr 1048578 [1, 0] 0 0, AV.ptr 1048577 [0, 0] 0 0, AV.iface 76 (AV.ref (AV.agg [i0 ea, AV.iface 59 (i0 ek)]))]); Nf4 (Nf (Nf (Nf (Ex.exit 0 = Ex.exit 0 ∧ Wk z2 z2 ∧ SameH (hpL z1) (hpL z1)))))) := by kernel_rfl
def ocR7N : Orc := HT (Orc.t (Orc.t (Orc.t (Orc.t Orc.z))))
theorem cR7N_vc (a : Int) (x : ByteArray) (r : List AV) (d : Int) (n q : Nd) (us zs : List AV) (m : Nd) : cR7N ocR7N a x r d n q us zs m = (let z1 : List (Nat × Ent) := [(1048579, { id := [2, 0], obj := AObj.map true (qVP21) [i0 (2 : Int), i0 (3 : Int)] }), eR 1048577 [0, 0] 5 [encP m], (qVP210 zs d), (qVP20)]; let z2 := (AV.agg [i0 (7 : Int), i0 a, s0 x] :: r); Yt4 (Yt ((qVP26) = true ∧ Yt (Yt (Yt ((decide ((0 : Int) ≤ (1 : Int) ∧ (1 : Int) ≤ (↑(List.length z2) : Int)) && Nat.beq 3 3) = true ∧ ∃ (_ : Unit), (True ∧ Wks [AV.ptr 1048577 [0, 0] 0 0] [AV.ptr 1048577 [0, 0] 0 0] ∧ hpL [eR 1048577 [0, 0] 2 [AV.agg [AV.lst false 3 (List.drop 1 z2), i0 d]]] = hpL [eR 1048577 [0, 0] 2 [AV.agg [AV.lst false 3 r, i0 d]]]) ∧ (qVP26) = true ∧ ∃ (_ : Unit), (True ∧ Wks (qVP22) (qVP22) ∧ HW (hpL [(1048579, { id := [2, 0], obj := AObj.map true (qVP21) [i0 (2 : Int), i0 (3 : Int)] }), eR 1048577 [0, 0] 5 [AV.agg [i0 (2 : Int), i0 a, i0 (0 : Int), s0 ⟨⟨[]⟩⟩, AV.lst true 5 [encP n, encP q]]], (qVP25 us d), (qVP20)]) (hpL [(1048579, { id := [2, 0], obj := AObj.map true (qVP21) [i0 (2 : Int), i0 (3 : Int)] }), eR 1048577 [0, 0] 5 [AV.agg [i0 (2 : Int), i0 a, i0 (0 : Int), s0 ByteArray.empty, AV.lst false 5 [encP n, encP q]]], (qVP25 us d), (qVP20)]) [1048577, 1048580]) ∧ Ex.exit 0 = Ex.exit 0 ∧ Wk (qVP29) (qVP29) ∧ SameH (hpL z1) (hpL z1))))))) := by kernel_rfl
def ocR7F : Orc := HT (Orc.t (Orc.t (Orc.t (Orc.t Orc.z))))
theorem cR7F_vc (a : Int) (x : ByteArray) (r : List AV) (d : Int) (n q : Nd) (us zs : List AV) (m : Nd) (fk fa : Int) : cR7F ocR7F a x r d n q us zs m fk fa = (let z1 : List (Nat × Ent) := [(1048579, { id := [2, 0], obj := AObj.map true (qVP21) [i0 (2 : Int), i0 (3 : Int)] }), eR 1048577 [0, 0] 5 [encP m], (qVP210 zs d), (qVP20)]; let z2 := (AV.agg [i0 (7 : Int), i0 a, s0 x] :: r); Yt4 (Yt ((qVP26) = true ∧ Yt (Yt (Yt ((decide ((0 : Int) ≤ (1 : Int) ∧ (1 : Int) ≤ (↑(List.length z2) : Int)) && Nat.beq 3 3) = true ∧ ∃ (_ : Unit), (True ∧ Wks [AV.ptr 1048577 [0, 0] 0 0] [AV.ptr 1048577 [0, 0] 0 0] ∧ hpL [eR 1048577 [0, 0] 2 [AV.agg [AV.lst false 3 (List.drop 1 z2), i0 d]]] = hpL [eR 1048577 [0, 0] 2 [AV.agg [AV.lst false 3 r, i0 d]]]) ∧ (qVP26) = true ∧ ∃ (_ : Unit), (True ∧ Wks (qVP22) (qVP22) ∧ HW (hpL [(1048579, { id := [2, 0], obj := AObj.map true (qVP21) [i0 (2 : Int), i0 (3 : Int)] }), eR 1048577 [0, 0] 5 [AV.agg [i0 (2 : Int), i0 a, i0 (0 : Int), s0 ⟨⟨[]⟩⟩, AV.lst true 5 [encP n, encP q]]], (qVP25 us d), (qVP20)]) (hpL [(1048579, { id := [2, 0], obj := AObj.map true (qVP21) [i0 (2 : Int), i0 (3 : Int)] }), eR 1048577 [0, 0] 5 [AV.agg [i0 (2 : Int), i0 a, i0 (0 : Int), s0 ByteArray.empty, AV.lst false 5 [encP n, encP q]]], (qVP25 us d), (qVP20)]) [1048577, 1048580]) ∧ Ex.exit 0 = Ex.exit 0 ∧ Wk (qVP23 fa fk) (qVP23 fa fk) ∧ SameH (hpL z1) (hpL z1))))))) := by kernel_rfl
def ocR7E : Orc := HT (Orc.t (Orc.t (Orc.t (Orc.t Orc.z))))
theorem cR7E_vc (a : Int) (x : ByteArray) (r : List AV) (d : Int) (n q : Nd) (us zs : List AV) (m : Nd) (ek ea : Int) (fk fa : Int) : cR7E ocR7E a x r d n q us zs m ek ea fk fa = (let z1 : List (Nat × Ent) := [(1048579, { id := [2, 0], obj := AObj.map true (qVP21) [i0 (2 : Int), i0 (3 : Int)] }), eR 1048577 [0, 0] 5 [encP m], (qVP210 zs d), (qVP20)]; let z2 := (AV.agg [i0 (7 : Int), i0 a, s0 x] :: r); Yt4 (Yt ((qVP26) = true ∧ Yt (Yt (Yt ((decide ((0 : Int) ≤ (1 : Int) ∧ (1 : Int) ≤ (↑(List.length z2) : Int)) && Nat.beq 3 3) = true ∧ ∃ (_ : Unit), (True ∧ Wks [AV.ptr 1048577 [0, 0] 0 0] [AV.ptr 1048577 [0, 0] 0 0] ∧ hpL [eR 1048577 [0, 0] 2 [AV.agg [AV.lst false 3 (List.drop 1 z2), i0 d]]] = hpL [eR 1048577 [0, 0] 2 [AV.agg [AV.lst false 3 r, i0 d]]]) ∧ (qVP26) = true ∧ ∃ (_ : Unit), (True ∧ Wks (qVP27 ea ek) (qVP27 ea ek) ∧ HW (hpL [(1048579, { id := [2, 0], obj := AObj.map true (qVP21) [i0 (2 : Int), i0 (3 : Int)] }), eR 1048577 [0, 0] 5 [AV.agg [i0 (2 : Int), i0 a, i0 (0 : Int), s0 ⟨⟨[]⟩⟩, AV.lst true 5 [encP n, encP q]]], (qVP25 us d), (qVP20)]) (hpL [(1048579, { id := [2, 0], obj := AObj.map true (qVP21) [i0 (2 : Int), i0 (3 : Int)] }), eR 1048577 [0, 0] 5 [AV.agg [i0 (2 : Int), i0 a, i0 (0 : Int), s0 ByteArray.empty, AV.lst false 5 [encP n, encP q]]], (qVP25 us d), (qVP20)]) [1048577, 1048580]) ∧ Ex.exit 0 = Ex.exit 0 ∧ Wk (qVP23 fa fk) (qVP23 fa fk) ∧ SameH (hpL z1) (hpL z1))))))) := by kernel_rfl
def ocR8N : Orc := HT (Orc.t (Orc.t (Orc.t (Orc.t Orc.z))))
theorem cR8N_vc (a : Int) (x : ByteArray) (r : List AV) (d : Int) (n q : Nd) (us zs : List AV) (m : Nd) : cR8N ocR8N a x r d n q us zs m = (let z1 : List (Nat × Ent) := [(1048579, { id := [2, 0], obj := AObj.map true (qVP21) [i0 (2 : Int), i0 (3 : Int)] }), eR 1048577 [0, 0] 5 [encP m], (qVP210 zs d), (qVP20)]; let z2 := (AV.agg [i0 (8 : Int), i0 a, s0 x] :: r); Yt4 (Yt ((qVP26) = true ∧ Yt (Yt (Yt ((decide ((0 : Int) ≤ (1 : Int) ∧ (1 : Int) ≤ (↑(List.length z2) : Int)) && Nat.beq 3 3) = true ∧ ∃ (_ : Unit), (True ∧ Wks [AV.ptr 1048577 [0, 0] 0 0] [AV.ptr 1048577 [0, 0] 0 0] ∧ hpL [eR 1048577 [0, 0] 2 [AV.agg [AV.lst false 3 (List.drop 1 z2), i0 d]]] = hpL [eR 1048577 [0, 0] 2 [AV.agg [AV.lst false 3 r, i0 d]]]) ∧ (qVP26) = true ∧ ∃ (_ : Unit), (True ∧ Wks (qVP22) (qVP22) ∧ HW (hpL [(1048579, { id := [2, 0], obj := AObj.map true (qVP21) [i0 (2 : Int), i0 (3 : Int)] }), eR 1048577 [0, 0] 5 [AV.agg [i0 (3 : Int), i0 a, i0 (0 : Int), s0 ⟨⟨[]⟩⟩, AV.lst true 5 [encP n, encP q]]], (qVP25 us d), (qVP20)]) (hpL [(1048579, { id := [2, 0], obj := AObj.map true (qVP21) [i0 (2 : Int), i0 (3 : Int)] }), eR 1048577 [0, 0] 5 [AV.agg [i0 (3 : Int), i0 a, i0 (0 : Int), s0 ByteArray.empty, AV.lst false 5 [encP n, encP q]]], (qVP25 us d), (qVP20)]) [1048577, 1048580]) ∧ Ex.exit 0 = Ex.exit 0 ∧ Wk (qVP29) (qVP29) ∧ SameH (hpL z1) (hpL z1))))))) := by kernel_rfl
def ocR8F : Orc := HT (Orc.t (Orc.t (Orc.t (Orc.t Orc.z))))
theorem cR8F_vc (a : Int) (x : ByteArray) (r : List AV) (d : Int) (n q : Nd) (us zs : List AV) (m : Nd) (fk fa : Int) : cR8F ocR8F a x r d n q us zs m fk fa = (let z1 : List (Nat × Ent) := [(1048579, { id := [2, 0], obj := AObj.map true (qVP21) [i0 (2 : Int), i0 (3 : Int)] }), eR 1048577 [0, 0] 5 [encP m], (qVP210 zs d), (qVP20)]; let z2 := (AV.agg [i0 (8 : Int), i0 a, s0 x] :: r); Yt4 (Yt ((qVP26) = true ∧ Yt (Yt (Yt ((decide ((0 : Int) ≤ (1 : Int) ∧ (1 : Int) ≤ (↑(List.length z2) : Int)) && Nat.beq 3 3) = true ∧ ∃ (_ : Unit), (True ∧ Wks [AV.ptr 1048577 [0, 0] 0 0] [AV.ptr 1048577 [0, 0] 0 0] ∧ hpL [eR 1048577 [0, 0] 2 [AV.agg [AV.lst false 3 (List.drop 1 z2), i0 d]]] = hpL [eR 1048577 [0, 0] 2 [AV.agg [AV.lst false 3 r, i0 d]]]) ∧ (qVP26) = true ∧ ∃ (_ : Unit), (True ∧ Wks (qVP22) (qVP22) ∧ HW (hpL [(1048579, { id := [2, 0], obj := AObj.map true (qVP21) [i0 (2 : Int), i0 (3 : Int)] }), eR 1048577 [0, 0] 5 [AV.agg [i0 (3 : Int), i0 a, i0 (0 : Int), s0 ⟨⟨[]⟩⟩, AV.lst true 5 [encP n, encP q]]], (qVP25 us d), (qVP20)]) (hpL [(1048579, { id := [2, 0], obj := AObj.map true (qVP21) [i0 (2 : Int), i0 (3 : Int)] }), eR 1048577 [0, 0] 5 [AV.agg [i0 (3 : Int), i0 a, i0 (0 : Int), s0 ByteArray.empty, AV.lst false 5 [encP n, encP q]]], (qVP25 us d), (qVP20)]) [1048577, 1048580]) ∧ Ex.exit 0 = Ex.exit 0 ∧ Wk (qVP23 fa fk) (qVP23 fa fk) ∧ SameH (hpL z1) (hpL z1))))))) := by kernel_rfl
def ocR8E : Orc := HT (Orc.t (Orc.t (Orc.t (Orc.t Orc.z))))
theorem cR8E_vc (a : Int) (x : ByteArray) (r : List AV) (d : Int) (n q : Nd) (us zs : List AV) (m : Nd) (ek ea : Int) (fk fa : Int) : cR8E ocR8E a x r d n q us zs m ek ea fk fa = (let z1 : List (Nat × Ent) := [(1048579, { id := [2, 0], obj := AObj.map true (qVP21) [i0 (2 : Int), i0 (3 : Int)] }), eR 1048577 [0, 0] 5 [encP m], (qVP210 zs d), (qVP20)]; let z2 := (AV.agg [i0 (8 : Int), i0 a, s0 x] :: r); Yt4 (Yt ((qVP26) = true ∧ Yt (Yt (Yt ((decide ((0 : Int) ≤ (1 : Int) ∧ (1 : Int) ≤ (↑(List.length z2) : Int)) && Nat.beq 3 3) = true ∧ ∃ (_ : Unit), (True ∧ Wks [AV.ptr 1048577 [0, 0] 0 0] [AV.ptr 1048577 [0, 0] 0 0] ∧ hpL [eR 1048577 [0, 0] 2 [AV.agg [AV.lst false 3 (List.drop 1 z2), i0 d]]] = hpL [eR 1048577 [0, 0] 2 [AV.agg [AV.lst false 3 r, i0 d]]]) ∧ (qVP26) = true ∧ ∃ (_ : Unit), (True ∧ Wks (qVP27 ea ek) (qVP27 ea ek) ∧ HW (hpL [(1048579, { id := [2, 0], obj := AObj.map true (qVP21) [i0 (2 : Int), i0 (3 : Int)] }), eR 1048577 [0, 0] 5 [AV.agg [i0 (3 : Int), i0 a, i0 (0 : Int), s0 ⟨⟨[]⟩⟩, AV.lst true 5 [encP n, encP q]]], (qVP25 us d), (qVP20)]) (hpL [(1048579, { id := [2, 0], obj := AObj.map true (qVP21) [i0 (2 : Int), i0 (3 : Int)] }), eR 1048577 [0, 0] 5 [AV.agg [i0 (3 : Int), i0 a, i0 (0 : Int), s0 ByteArray.empty, AV.lst false 5 [encP n, encP q]]], (qVP25 us d), (qVP20)]) [1048577, 1048580]) ∧ Ex.exit 0 = Ex.exit 0 ∧ Wk (qVP23 fa fk) (qVP23 fa fk) ∧ SameH (hpL z1) (hpL z1))))))) := by kernel_rfl
def ocR9N : Orc := HT (Orc.t (Orc.t (Orc.t (Orc.t Orc.z))))
theorem cR9N_vc (a : Int) (x : ByteArray) (r : List AV) (d : Int) (n q : Nd) (us zs : List AV) (m : Nd) : cR9N ocR9N a x r d n q us zs m = (let z1 : List (Nat × Ent) := [(1048579, { id := [2, 0], obj := AObj.map true [Value.int IntKind.i64 (9 : Int)] [i0 (4 : Int)] }), eR 1048577 [0, 0] 5 [encP m], (qVP210 zs d), (qVP20)]; let z2 := (AV.agg [i0 (9 : Int), i0 a, s0 x] :: r); Yt4 (Yt ((qVP26) = true ∧ Yt (Yt (Yt ((decide ((0 : Int) ≤ (1 : Int) ∧ (1 : Int) ≤ (↑(List.length z2) : Int)) && Nat.beq 3 3) = true ∧ ∃ (_ : Unit), (True ∧ Wks [AV.ptr 1048577 [0, 0] 0 0] [AV.ptr 1048577 [0, 0] 0 0] ∧ hpL [eR 1048577 [0, 0] 2 [AV.agg [AV.lst false 3 (List.drop 1 z2), i0 d]]] = hpL [eR 1048577 [0, 0] 2 [AV.agg [AV.lst false 3 r, i0 d]]]) ∧ (qVP26) = true ∧ ∃ (_ : Unit), (True ∧ Wks (qVP24) (qVP24) ∧ HW (hpL [(1048579, { id := [2, 0], obj := AObj.map true [Value.int IntKind.i64 (9 : Int)] [i0 (4 : Int)] }), eR 1048577 [0, 0] 5 [AV.agg [i0 (4 : Int), i0 a, i0 (0 : Int), s0 ⟨⟨[]⟩⟩, AV.lst true 5 [encP n, encP q]]], (qVP25 us d), (qVP20)]) (hpL [(1048579, { id := [2, 0], obj := AObj.map true [Value.int IntKind.i64 (9 : Int)] [i0 (4 : Int)] }), eR 1048577 [0, 0] 5 [AV.agg [i0 (4 : Int), i0 a, i0 (0 : Int), s0 ByteArray.empty, AV.lst false 5 [encP n, encP q]]], (qVP25 us d), (qVP20)]) [1048577, 1048580]) ∧ Ex.exit 0 = Ex.exit 0 ∧ Wk (qVP29) (qVP29) ∧ SameH (hpL z1) (hpL z1))))))) := by kernel_rfl
def ocR9F : Orc := HT (Orc.t (Orc.t (Orc.t (Orc.t Orc.z))))
theorem cR9F_vc (a : Int) (x : ByteArray) (r : List AV) (d : Int) (n q : Nd) (us zs : List AV) (m : Nd) (fk fa : Int) : cR9F ocR9F a x r d n q us zs m fk fa = (let z1 : List (Nat × Ent) := [(1048579, { id := [2, 0], obj := AObj.map true [Value.int IntKind.i64 (9 : Int)] [i0 (4 : Int)] }), eR 1048577 [0, 0] 5 [encP m], (qVP210 zs d), (qVP20)]; let z2 := (AV.agg [i0 (9 : Int), i0 a, s0 x] :: r); Yt4 (Yt ((qVP26) = true ∧ Yt (Yt (Yt ((decide ((0 : Int) ≤ (1 : Int) ∧ (1 : Int) ≤ (↑(List.length z2) : Int)) && Nat.beq 3 3) = true ∧ ∃ (_ : Unit), (True ∧ Wks [AV.ptr 1048577 [0, 0] 0 0] [AV.ptr 1048577 [0, 0] 0 0] ∧ hpL [eR 1048577 [0, 0] 2 [AV.agg [AV.lst false 3 (List.drop 1 z2), i0 d]]] = hpL [eR 1048577 [0, 0] 2 [AV.agg [AV.lst false 3 r, i0 d]]]) ∧ (qVP26) = true ∧ ∃ (_ : Unit), (True ∧ Wks (qVP24) (qVP24) ∧ HW (hpL [(1048579, { id := [2, 0], obj := AObj.map true [Value.int IntKind.i64 (9 : Int)] [i0 (4 : Int)] }), eR 1048577 [0, 0] 5 [AV.agg [i0 (4 : Int), i0 a, i0 (0 : Int), s0 ⟨⟨[]⟩⟩, AV.lst true 5 [encP n, encP q]]], (qVP25 us d), (qVP20)]) (hpL [(1048579, { id := [2, 0], obj := AObj.map true [Value.int IntKind.i64 (9 : Int)] [i0 (4 : Int)] }), eR 1048577 [0, 0] 5 [AV.agg [i0 (4 : Int), i0 a, i0 (0 : Int), s0 ByteArray.empty, AV.lst false 5 [encP n, encP q]]], (qVP25 us d), (qVP20)]) [1048577, 1048580]) ∧ Ex.exit 0 = Ex.exit 0 ∧ Wk (qVP23 fa fk) (qVP23 fa fk) ∧ SameH (hpL z1) (hpL z1))))))) := by kernel_rfl
def ocR9E : Orc := HT (Orc.t (Orc.t (Orc.t (Orc.t Orc.z))))
theorem cR9E_vc (a : Int) (x : ByteArray) (r : List AV) (d : Int) (n q : Nd) (us zs : List AV) (m : Nd) (ek ea : Int) (fk fa : Int) : cR9E ocR9E a x r d n q us zs m ek ea fk fa = (let z1 : List (Nat × Ent) := [(1048579, { id := [2, 0], obj := AObj.map true [Value.int IntKind.i64 (9 : Int)] [i0 (4 : Int)] }), eR 1048577 [0, 0] 5 [encP m], (qVP210 zs d), (qVP20)]; let z2 := (AV.agg [i0 (9 : Int), i0 a, s0 x] :: r); Yt4 (Yt ((qVP26) = true ∧ Yt (Yt (Yt ((decide ((0 : Int) ≤ (1 : Int) ∧ (1 : Int) ≤ (↑(List.length z2) : Int)) && Nat.beq 3 3) = true ∧ ∃ (_ : Unit), (True ∧ Wks [AV.ptr 1048577 [0, 0] 0 0] [AV.ptr 1048577 [0, 0] 0 0] ∧ hpL [eR 1048577 [0, 0] 2 [AV.agg [AV.lst false 3 (List.drop 1 z2), i0 d]]] = hpL [eR 1048577 [0, 0] 2 [AV.agg [AV.lst false 3 r, i0 d]]]) ∧ (qVP26) = true ∧ ∃ (_ : Unit), (True ∧ Wks (qVP212 ea ek) (qVP212 ea ek) ∧ HW (hpL [(1048579, { id := [2, 0], obj := AObj.map true [Value.int IntKind.i64 (9 : Int)] [i0 (4 : Int)] }), eR 1048577 [0, 0] 5 [AV.agg [i0 (4 : Int), i0 a, i0 (0 : Int), s0 ⟨⟨[]⟩⟩, AV.lst true 5 [encP n, encP q]]], (qVP25 us d), (qVP20)]) (hpL [(1048579, { id := [2, 0], obj := AObj.map true [Value.int IntKind.i64 (9 : Int)] [i0 (4 : Int)] }), eR 1048577 [0, 0] 5 [AV.agg [i0 (4 : Int), i0 a, i0 (0 : Int), s0 ByteArray.empty, AV.lst false 5 [encP n, encP q]]], (qVP25 us d), (qVP20)]) [1048577, 1048580]) ∧ Ex.exit 0 = Ex.exit 0 ∧ Wk (qVP23 fa fk) (qVP23 fa fk) ∧ SameH (hpL z1) (hpL z1))))))) := by kernel_rfl
theorem gExN_vc (ts us : List AV) (d : Int) (q : Nd) (zs : List AV) (m : Nd) : gExN (Orc.z) ts us d q zs m = (let z1 := (AV.tup [encP m, AV.lit Value.nilIface]); ∃ (_ : Unit), (qVP28 ts d) ∧ ∃ (_ : Unit), (True ∧ Wks (qVP22) (qVP22) ∧ HW (hpL [(1048579, { id := [2, 0], obj := AObj.map true (qVP21) [i0 (2 : Int), i0 (3 : Int)] }), eR 1048577 [0, 0] 5 [encP q], (qVP25 us d), eR 1048578 [1, 0] 5 [AV.agg [i0 (0 : Int), i0 (0 : Int), i0 (0 : Int), s0 ⟨⟨[]⟩⟩, AV.lit (Value.slice none 0 0)]]]) (hpL [(1048579, { id := [2, 0], obj := AObj.map true (qVP21) [i0 (2 : Int), i0 (3 : Int)] }), eR 1048577 [0, 0] 5 [encP q], (qVP25 us d), (qVP20)]) [1048577, 1048580]) ∧ Wk z1 z1 ∧ SameH (qVP213 zs d) (qVP213 zs d)) := by kernel_rfl
theorem gExF_vc (ts us : List AV) (d : Int) (q : Nd) (zs : List AV) (m : Nd) (fk fa : Int) : gExF (Orc.z) ts us d q zs m fk fa = (let z1 := (AV.tup [encP m, AV.iface 76 (AV.ref (AV.agg [i0 fa, AV.iface 59 (i0 fk)]))]); ∃ (_ : Unit), (qVP28 ts d) ∧ ∃ (_ : Unit), (True ∧ Wks (qVP22) (qVP22) ∧ HW (hpL [(1048579, { id := [2, 0], obj := AObj.map true (qVP21) [i0 (2 : Int), i0 (3 : Int)] }), eR 1048577 [0, 0] 5 [encP q], (qVP25 us d), eR 1048578 [1, 0] 5 [AV.agg [i0 (0 : Int), i0 (0 : Int), i0 (0 : Int), s0 ⟨⟨[]⟩⟩, AV.lit (Value.slice none 0 0)]]]) (hpL [(1048579, { id := [2, 0], obj := AObj.map true (qVP21) [i0 (2 : Int), i0 (3 : Int)] }), eR 1048577 [0, 0] 5 [encP q], (qVP25 us d), (qVP20)]) [1048577, 1048580]) ∧ Wk z1 z1 ∧ SameH (qVP213 zs d) (qVP213 zs d)) := by kernel_rfl
theorem gExE_vc (ts us : List AV) (d : Int) (q : Nd) (zs : List AV) (m : Nd) (ek ea : Int) (fk fa : Int) : gExE (Orc.z) ts us d q zs m ek ea fk fa = (let z1 := (AV.tup [encP m, AV.iface 76 (AV.ref (AV.agg [i0 fa, AV.iface 59 (i0 fk)]))]); ∃ (_ : Unit), (qVP28 ts d) ∧ ∃ (_ : Unit), (True ∧ Wks (qVP27 ea ek) (qVP27 ea ek) ∧ HW (hpL [(1048579, { id := [2, 0], obj := AObj.map true (qVP21) [i0 (2 : Int), i0 (3 : Int)] }), eR 1048577 [0, 0] 5 [encP q], (qVP25 us d), eR 1048578 [1, 0] 5 [AV.agg [i0 (0 : Int), i0 (0 : Int), i0 (0 : Int), s0 ⟨⟨[]⟩⟩, AV.lit (Value.slice none 0 0)]]]) (hpL [(1048579, { id := [2, 0], obj := AObj.map true (qVP21) [i0 (2 : Int), i0 (3 : Int)] }), eR 1048577 [0, 0] 5 [encP q], (qVP25 us d), (qVP20)]) [1048577, 1048580]) ∧ Wk z1 z1 ∧ SameH (qVP213 zs d) (qVP213 zs d)) := by kernel_rfl
theorem gTeN_vc (ts us : List AV) (d : Int) (q : Nd) (zs : List AV) (m : Nd) : gTeN (Orc.z) ts us d q zs m = (let z1 := (AV.tup [encP m, AV.lit Value.nilIface]); ∃ (_ : Unit), (qVP28 ts d) ∧ ∃ (_ : Unit), (True ∧ Wks (qVP24) (qVP24) ∧ HW (hpL [(1048579, { id := [2, 0], obj := AObj.map true [Value.int IntKind.i64 (9 : Int)] [i0 (4 : Int)] }), eR 1048577 [0, 0] 5 [encP q], (qVP25 us d), eR 1048578 [1, 0] 5 [AV.agg [i0 (0 : Int), i0 (0 : Int), i0 (0 : Int), s0 ⟨⟨[]⟩⟩, AV.lit (Value.slice none 0 0)]]]) (hpL [(1048579, { id := [2, 0], obj := AObj.map true [Value.int IntKind.i64 (9 : Int)] [i0 (4 : Int)] }), eR 1048577 [0, 0] 5 [encP q], (qVP25 us d), (qVP20)]) [1048577, 1048580]) ∧ Wk z1 z1 ∧ SameH (qVP213 zs d) (qVP213 zs d)) := by kernel_rfl
theorem gTeF_vc (ts us : List AV) (d : Int) (q : Nd) (zs : List AV) (m : Nd) (fk fa : Int) : gTeF (Orc.z) ts us d q zs m fk fa = (let z1 := (AV.tup [encP m, AV.iface 76 (AV.ref (AV.agg [i0 fa, AV.iface 59 (i0 fk)]))]); ∃ (_ : Unit), (qVP28 ts d) ∧ ∃ (_ : Unit), (True ∧ Wks (qVP24) (qVP24) ∧ HW (hpL [(1048579, { id := [2, 0], obj := AObj.map true [Value.int IntKind.i64 (9 : Int)] [i0 (4 : Int)] }), eR 1048577 [0, 0] 5 [encP q], (qVP25 us d), eR 1048578 [1, 0] 5 [AV.agg [i0 (0 : Int), i0 (0 : Int), i0 (0 : Int), s0 ⟨⟨[]⟩⟩, AV.lit (Value.slice none 0 0)]]]) (hpL [(1048579, { id := [2, 0], obj := AObj.map true [Value.int IntKind.i64 (9 : Int)] [i0 (4 : Int)] }), eR 1048577 [0, 0] 5 [encP q], (qVP25 us d), (qVP20)]) [1048577, 1048580]) ∧ Wk z1 z1 ∧ SameH (qVP213 zs d) (qVP213 zs d)) := by kernel_rfl
theorem gTeE_vc (ts us : List AV) (d : Int) (q : Nd) (zs : List AV) (m : Nd) (ek ea : Int) (fk fa : Int) : gTeE (Orc.z) ts us d q zs m ek ea fk fa = (let z1 := (AV.tup [encP m, AV.iface 76 (AV.ref (AV.agg [i0 fa, AV.iface 59 (i0 fk)]))]); ∃ (_ : Unit), (qVP28 ts d) ∧ ∃ (_ : Unit), (True ∧ Wks (qVP212 ea ek) (qVP212 ea ek) ∧ HW (hpL [(1048579, { id := [2, 0], obj := AObj.map true [Value.int IntKind.i64 (9 : Int)] [i0 (4 : Int)] }), eR 1048577 [0, 0] 5 [encP q], (qVP25 us d), eR 1048578 [1, 0] 5 [AV.agg [i0 (0 : Int), i0 (0 : Int), i0 (0 : Int), s0 ⟨⟨[]⟩⟩, AV.lit (Value.slice none 0 0)]]]) (hpL [(1048579, { id := [2, 0], obj := AObj.map true [Value.int IntKind.i64 (9 : Int)] [i0 (4 : Int)] }), eR 1048577 [0, 0] 5 [encP q], (qVP25 us d), (qVP20)]) [1048577, 1048580]) ∧ Wk z1 z1 ∧ SameH (qVP213 zs d) (qVP213 zs d)) := by kernel_rfl
end Go.Proofs.YtpofhijgccocpaaDoor
end
section
namespace Go.Proofs.YtpofhijgccocpaaDoor
open Go Go.AS Go.TP
noncomputable section
theorem cutOk (x : AV) (r : List AV) : (decide ((0 : Int) ≤ (1 : Int) ∧ (1 : Int) ≤ ((List.length (x :: r) : Nat) : Int)) && true) = true := by
 rw [decide_eq_true ⟨by decide, by rw [List.length_cons]; omega⟩]; rfl
theorem wkNode {k a n t : AV} {ks : List AV} : Wk (.agg [k, a, n, t, .lst true 5 ks]) (.agg [k, a, n, t, .lst false 5 ks]) :=
 .agg (.cons (.refl _) (.cons (.refl _) (.cons (.refl _) (.cons (.refl _) (.cons .lst .nil)))))
theorem wkZero {k a n t : AV} : Wk (.agg [k, a, n, t, .lit (.slice none 0 0)]) (.agg [k, a, n, t, .lst false 5 []]) :=
 .agg (.cons (.refl _) (.cons (.refl _) (.cons (.refl _) (.cons (.refl _) (.cons .nilS .nil)))))
theorem hwNode {m p z : Nat × Ent} {i : Go.AS.Id} {k a n t : AV} {ks : List AV} : HW (hpL [m, (1048577, ⟨i, .row true 5 [.agg [k, a, n, t, .lst true 5 ks]]⟩), p, z]) (hpL [m, (1048577, ⟨i, .row true 5 [.agg [k, a, n, t, .lst false 5 ks]]⟩), p, z]) [1048577, 1048580] :=
 .cons (.row (by simp) (.cons wkNode .nil) (.cons (.cons (.nil _))))
theorem aBad_ok (k : Int) (a : Int) (x : ByteArray) (r : List AV) (d : Int) (t0 : (k == (2 : Int)) = false) (t1 : (k == (1 : Int)) = false) (h0 : 0 ≤ d) (h1 : d ≤ 24) : aBad (Orc.f (Orc.f (Orc.f Orc.z))) k a x r d := by
 rw [aBad_vc]
 repeat' first
  | exact rfl
  | assumption
  | exact .refl _
  | exact .rfl
  | exact cutOk _ _
  | exact Nat.le_refl 2
  | exact inR_i64 (by omega) (by omega)
  | exact .tup (.cons wkNode (.refl _))
  | exact .tup (.cons wkZero (.refl _))
  | refine ⟨(), ⟨trivial, .refl _, rfl⟩, ?_⟩
  | refine ⟨(), ⟨trivial, .refl _, .refl _ _⟩, ?_⟩
  | refine ⟨(), ⟨trivial, .refl _, hwNode⟩, ?_⟩
  | refine And.intro ?_ ?_
theorem aDeep_ok (a : Int) (x : ByteArray) (r : List AV)  : aDeep oaDeep a x r := by
 rw [aDeep_vc]
 repeat' first
  | exact rfl
  | assumption
  | exact .refl _
  | exact .rfl
  | exact cutOk _ _
  | exact Nat.le_refl 2
  | exact inR_i64 (by omega) (by omega)
  | exact .tup (.cons wkNode (.refl _))
  | exact .tup (.cons wkZero (.refl _))
  | refine ⟨(), ⟨trivial, .refl _, rfl⟩, ?_⟩
  | refine ⟨(), ⟨trivial, .refl _, .refl _ _⟩, ?_⟩
  | refine ⟨(), ⟨trivial, .refl _, hwNode⟩, ?_⟩
  | refine And.intro ?_ ?_
theorem aOpen_ok (a : Int) (x : ByteArray) (r : List AV) (d : Int) (q : Nd) (a' : Int) (x' : ByteArray) (r' : List AV) (t0 : (d == (24 : Int)) = false) (h0 : 0 ≤ d) (h1 : d ≤ 24) : aOpen oaOpen a x r d q a' x' r' := by
 rw [aOpen_vc]
 have e : d + (1 : Int) - (1 : Int) = d := by omega
 rw [e]
 repeat' first
  | exact rfl
  | assumption
  | exact .refl _
  | exact .rfl
  | exact cutOk _ _
  | exact Nat.le_refl 2
  | exact inR_i64 (by omega) (by omega)
  | exact .tup (.cons wkNode (.refl _))
  | exact .tup (.cons wkZero (.refl _))
  | refine ⟨(), ⟨trivial, .refl _, rfl⟩, ?_⟩
  | refine ⟨(), ⟨trivial, .refl _, .refl _ _⟩, ?_⟩
  | refine ⟨(), ⟨trivial, .refl _, hwNode⟩, ?_⟩
  | refine And.intro ?_ ?_
theorem aOpenX_ok (a : Int) (x : ByteArray) (r : List AV) (d : Int) (q : Nd) (k' : Int) (a' : Int) (x' : ByteArray) (r' : List AV) (t0 : (d == (24 : Int)) = false) (t1 : (k' != (3 : Int)) = true) (h0 : 0 ≤ d) (h1 : d ≤ 24) : aOpenX oaOpenX a x r d q k' a' x' r' := by
 rw [aOpenX_vc]
 have e : d + (1 : Int) - (1 : Int) = d := by omega
 rw [e]
 repeat' first
  | exact rfl
  | assumption
  | exact .refl _
  | exact .rfl
  | exact cutOk _ _
  | exact Nat.le_refl 2
  | exact inR_i64 (by omega) (by omega)
  | exact .tup (.cons wkNode (.refl _))
  | exact .tup (.cons wkZero (.refl _))
  | refine ⟨(), ⟨trivial, .refl _, rfl⟩, ?_⟩
  | refine ⟨(), ⟨trivial, .refl _, .refl _ _⟩, ?_⟩
  | refine ⟨(), ⟨trivial, .refl _, hwNode⟩, ?_⟩
  | refine And.intro ?_ ?_
theorem aOpenE_ok (a : Int) (x : ByteArray) (r : List AV) (d : Int) (q : Nd) (ek : Int) (ea : Int) (ts' : List AV) (t0 : (d == (24 : Int)) = false) (h0 : 0 ≤ d) (h1 : d ≤ 24) : aOpenE oaOpenE a x r d q ek ea ts' := by
 rw [aOpenE_vc]
 have e : d + (1 : Int) - (1 : Int) = d := by omega
 rw [e]
 repeat' first
  | exact rfl
  | assumption
  | exact .refl _
  | exact .rfl
  | exact cutOk _ _
  | exact Nat.le_refl 2
  | exact inR_i64 (by omega) (by omega)
  | exact .tup (.cons wkNode (.refl _))
  | exact .tup (.cons wkZero (.refl _))
  | refine ⟨(), ⟨trivial, .refl _, rfl⟩, ?_⟩
  | refine ⟨(), ⟨trivial, .refl _, .refl _ _⟩, ?_⟩
  | refine ⟨(), ⟨trivial, .refl _, hwNode⟩, ?_⟩
  | refine And.intro ?_ ?_
theorem aName_ok (a : Int) (x : ByteArray) (k' : Int) (a' : Int) (x' : ByteArray) (r : List AV) (d : Int) (t0 : (k' == (2 : Int)) = false) (h0 : 0 ≤ d) (h1 : d ≤ 24) : aName oaName a x k' a' x' r d := by
 rw [aName_vc]
 repeat' first
  | exact rfl
  | assumption
  | exact .refl _
  | exact .rfl
  | exact cutOk _ _
  | exact Nat.le_refl 2
  | exact inR_i64 (by omega) (by omega)
  | exact .tup (.cons wkNode (.refl _))
  | exact .tup (.cons wkZero (.refl _))
  | refine ⟨(), ⟨trivial, .refl _, rfl⟩, ?_⟩
  | refine ⟨(), ⟨trivial, .refl _, .refl _ _⟩, ?_⟩
  | refine ⟨(), ⟨trivial, .refl _, hwNode⟩, ?_⟩
  | refine And.intro ?_ ?_
theorem aNameX_ok (a : Int) (x : ByteArray) (k' : Int) (a' : Int) (x' : ByteArray) (r : List AV) (d : Int) (t0 : (k' == (2 : Int)) = false) (h0 : 0 ≤ d) (h1 : d ≤ 24) : aNameX oaNameX a x k' a' x' r d := by
 rw [aNameX_vc]
 repeat' first
  | exact rfl
  | assumption
  | exact .refl _
  | exact .rfl
  | exact cutOk _ _
  | exact Nat.le_refl 2
  | exact inR_i64 (by omega) (by omega)
  | exact .tup (.cons wkNode (.refl _))
  | exact .tup (.cons wkZero (.refl _))
  | refine ⟨(), ⟨trivial, .refl _, rfl⟩, ?_⟩
  | refine ⟨(), ⟨trivial, .refl _, .refl _ _⟩, ?_⟩
  | refine ⟨(), ⟨trivial, .refl _, hwNode⟩, ?_⟩
  | refine And.intro ?_ ?_
theorem aCall0_ok (a : Int) (x : ByteArray) (a' : Int) (x' : ByteArray) (r : List AV) (d : Int)  (h0 : 0 ≤ d) (h1 : d ≤ 24) : aCall0 oaCall0 a x a' x' r d := by
 rw [aCall0_vc]
 repeat' first
  | exact rfl
  | assumption
  | exact .refl _
  | exact .rfl
  | exact cutOk _ _
  | exact Nat.le_refl 2
  | exact inR_i64 (by omega) (by omega)
  | exact .tup (.cons wkNode (.refl _))
  | exact .tup (.cons wkZero (.refl _))
  | refine ⟨(), ⟨trivial, .refl _, rfl⟩, ?_⟩
  | refine ⟨(), ⟨trivial, .refl _, .refl _ _⟩, ?_⟩
  | refine ⟨(), ⟨trivial, .refl _, hwNode⟩, ?_⟩
  | refine And.intro ?_ ?_
theorem aCallD_ok (a : Int) (x : ByteArray) (v : Int) (a' : Int) (x' : ByteArray) (r : List AV) (t0 : (v == (0 : Int)) = false) : aCallD oaCallD a x v a' x' r := by
 rw [aCallD_vc]
 repeat' first
  | exact rfl
  | assumption
  | exact .refl _
  | exact .rfl
  | exact cutOk _ _
  | exact Nat.le_refl 2
  | exact inR_i64 (by omega) (by omega)
  | exact .tup (.cons wkNode (.refl _))
  | exact .tup (.cons wkZero (.refl _))
  | refine ⟨(), ⟨trivial, .refl _, rfl⟩, ?_⟩
  | refine ⟨(), ⟨trivial, .refl _, .refl _ _⟩, ?_⟩
  | refine ⟨(), ⟨trivial, .refl _, hwNode⟩, ?_⟩
  | refine And.intro ?_ ?_
theorem aCall1_ok (a : Int) (x : ByteArray) (a' : Int) (x' : ByteArray) (c : Int) (y : ByteArray) (r : List AV) (d : Int) (t0 : (d == (24 : Int)) = false) (h0 : 0 ≤ d) (h1 : d ≤ 24) : aCall1 oaCall1 a x a' x' c y r d := by
 rw [aCall1_vc]
 have e : d + (1 : Int) - (1 : Int) = d := by omega
 rw [e]
 repeat' first
  | exact rfl
  | assumption
  | exact .refl _
  | exact .rfl
  | exact cutOk _ _
  | exact Nat.le_refl 2
  | exact inR_i64 (by omega) (by omega)
  | exact .tup (.cons wkNode (.refl _))
  | exact .tup (.cons wkZero (.refl _))
  | refine ⟨(), ⟨trivial, .refl _, rfl⟩, ?_⟩
  | refine ⟨(), ⟨trivial, .refl _, .refl _ _⟩, ?_⟩
  | refine ⟨(), ⟨trivial, .refl _, hwNode⟩, ?_⟩
  | refine And.intro ?_ ?_
theorem aCall1X_ok (a : Int) (x : ByteArray) (a' : Int) (x' : ByteArray) (kc : Int) (c : Int) (y : ByteArray) (r : List AV) (d : Int) (t0 : (d == (24 : Int)) = false) (t1 : (kc != (3 : Int)) = true) (h0 : 0 ≤ d) (h1 : d ≤ 24) : aCall1X oaCall1X a x a' x' kc c y r d := by
 rw [aCall1X_vc]
 have e : d + (1 : Int) - (1 : Int) = d := by omega
 rw [e]
 repeat' first
  | exact rfl
  | assumption
  | exact .refl _
  | exact .rfl
  | exact cutOk _ _
  | exact Nat.le_refl 2
  | exact inR_i64 (by omega) (by omega)
  | exact .tup (.cons wkNode (.refl _))
  | exact .tup (.cons wkZero (.refl _))
  | refine ⟨(), ⟨trivial, .refl _, rfl⟩, ?_⟩
  | refine ⟨(), ⟨trivial, .refl _, .refl _ _⟩, ?_⟩
  | refine ⟨(), ⟨trivial, .refl _, hwNode⟩, ?_⟩
  | refine And.intro ?_ ?_
theorem aCallE_ok (a : Int) (x : ByteArray) (v : Int) (a' : Int) (x' : ByteArray) (r : List AV) (d : Int) (q : Nd) (ek : Int) (ea : Int) (ts' : List AV) (t0 : (v == (0 : Int)) = false) (t1 : (d == (24 : Int)) = false) (t2 : (v == (1 : Int)) = false) (h0 : 0 ≤ d) (h1 : d ≤ 24) : aCallE oaCallE a x v a' x' r d q ek ea ts' := by
 rw [aCallE_vc]
 have e : d + (1 : Int) - (1 : Int) = d := by omega
 rw [e]
 repeat' first
  | exact rfl
  | assumption
  | exact .refl _
  | exact .rfl
  | exact cutOk _ _
  | exact Nat.le_refl 2
  | exact inR_i64 (by omega) (by omega)
  | exact .tup (.cons wkNode (.refl _))
  | exact .tup (.cons wkZero (.refl _))
  | refine ⟨(), ⟨trivial, .refl _, rfl⟩, ?_⟩
  | refine ⟨(), ⟨trivial, .refl _, .refl _ _⟩, ?_⟩
  | refine ⟨(), ⟨trivial, .refl _, hwNode⟩, ?_⟩
  | refine And.intro ?_ ?_
theorem aCall2_ok (a : Int) (x : ByteArray) (a' : Int) (x' : ByteArray) (r : List AV) (d : Int) (q : Nd) (c : Int) (y : ByteArray) (r' : List AV) (t0 : (d == (24 : Int)) = false) (h0 : 0 ≤ d) (h1 : d ≤ 24) : aCall2 oaCall2 a x a' x' r d q c y r' := by
 rw [aCall2_vc]
 have e : d + (1 : Int) - (1 : Int) = d := by omega
 rw [e]
 repeat' first
  | exact rfl
  | assumption
  | exact .refl _
  | exact .rfl
  | exact cutOk _ _
  | exact Nat.le_refl 2
  | exact inR_i64 (by omega) (by omega)
  | exact .tup (.cons wkNode (.refl _))
  | exact .tup (.cons wkZero (.refl _))
  | refine ⟨(), ⟨trivial, .refl _, rfl⟩, ?_⟩
  | refine ⟨(), ⟨trivial, .refl _, .refl _ _⟩, ?_⟩
  | refine ⟨(), ⟨trivial, .refl _, hwNode⟩, ?_⟩
  | refine And.intro ?_ ?_
theorem aCall2X_ok (a : Int) (x : ByteArray) (a' : Int) (x' : ByteArray) (r : List AV) (d : Int) (q : Nd) (kc : Int) (c : Int) (y : ByteArray) (r' : List AV) (t0 : (d == (24 : Int)) = false) (t1 : (kc != (3 : Int)) = true) (h0 : 0 ≤ d) (h1 : d ≤ 24) : aCall2X oaCall2X a x a' x' r d q kc c y r' := by
 rw [aCall2X_vc]
 have e : d + (1 : Int) - (1 : Int) = d := by omega
 rw [e]
 repeat' first
  | exact rfl
  | assumption
  | exact .refl _
  | exact .rfl
  | exact cutOk _ _
  | exact Nat.le_refl 2
  | exact inR_i64 (by omega) (by omega)
  | exact .tup (.cons wkNode (.refl _))
  | exact .tup (.cons wkZero (.refl _))
  | refine ⟨(), ⟨trivial, .refl _, rfl⟩, ?_⟩
  | refine ⟨(), ⟨trivial, .refl _, .refl _ _⟩, ?_⟩
  | refine ⟨(), ⟨trivial, .refl _, hwNode⟩, ?_⟩
  | refine And.intro ?_ ?_
theorem aCall3C_ok (a : Int) (x : ByteArray) (a' : Int) (x' : ByteArray) (r : List AV) (d : Int) (q : Nd) (kc : Int) (c : Int) (y : ByteArray) (r' : List AV) (t0 : (d == (24 : Int)) = false) (t1 : (kc != (4 : Int)) = true) (h0 : 0 ≤ d) (h1 : d ≤ 24) : aCall3C oaCall3C a x a' x' r d q kc c y r' := by
 rw [aCall3C_vc]
 have e : d + (1 : Int) - (1 : Int) = d := by omega
 rw [e]
 repeat' first
  | exact rfl
  | assumption
  | exact .refl _
  | exact .rfl
  | exact cutOk _ _
  | exact Nat.le_refl 2
  | exact inR_i64 (by omega) (by omega)
  | exact .tup (.cons wkNode (.refl _))
  | exact .tup (.cons wkZero (.refl _))
  | refine ⟨(), ⟨trivial, .refl _, rfl⟩, ?_⟩
  | refine ⟨(), ⟨trivial, .refl _, .refl _ _⟩, ?_⟩
  | refine ⟨(), ⟨trivial, .refl _, hwNode⟩, ?_⟩
  | refine And.intro ?_ ?_
theorem aCall3N_ok (a : Int) (x : ByteArray) (a' : Int) (x' : ByteArray) (r : List AV) (d : Int) (q : Nd) (c : Int) (y : ByteArray) (kn : Int) (an : Int) (xn : ByteArray) (m : Int) (r' : List AV) (t0 : (d == (24 : Int)) = false) (h0 : 0 ≤ d) (h1 : d ≤ 24) : aCall3N oaCall3N a x a' x' r d q c y kn an xn m r' := by
 rw [aCall3N_vc]
 have e : d + (1 : Int) - (1 : Int) = d := by omega
 rw [e]
 repeat' first
  | exact rfl
  | assumption
  | exact .refl _
  | exact .rfl
  | exact cutOk _ _
  | exact Nat.le_refl 2
  | exact inR_i64 (by omega) (by omega)
  | exact .tup (.cons wkNode (.refl _))
  | exact .tup (.cons wkZero (.refl _))
  | refine ⟨(), ⟨trivial, .refl _, rfl⟩, ?_⟩
  | refine ⟨(), ⟨trivial, .refl _, .refl _ _⟩, ?_⟩
  | refine ⟨(), ⟨trivial, .refl _, hwNode⟩, ?_⟩
  | refine And.intro ?_ ?_
theorem aCall3_ok (a : Int) (x : ByteArray) (a' : Int) (x' : ByteArray) (r : List AV) (d : Int) (q : Nd) (c : Int) (y : ByteArray) (an : Int) (xn : ByteArray) (m : Int) (z : Int) (w : ByteArray) (r' : List AV) (t0 : (d == (24 : Int)) = false) (h0 : 0 ≤ d) (h1 : d ≤ 24) : aCall3 oaCall3 a x a' x' r d q c y an xn m z w r' := by
 rw [aCall3_vc]
 have e : d + (1 : Int) - (1 : Int) = d := by omega
 rw [e]
 repeat' first
  | exact rfl
  | assumption
  | exact .refl _
  | exact .rfl
  | exact cutOk _ _
  | exact Nat.le_refl 2
  | exact inR_i64 (by omega) (by omega)
  | exact .tup (.cons wkNode (.refl _))
  | exact .tup (.cons wkZero (.refl _))
  | refine ⟨(), ⟨trivial, .refl _, rfl⟩, ?_⟩
  | refine ⟨(), ⟨trivial, .refl _, .refl _ _⟩, ?_⟩
  | refine ⟨(), ⟨trivial, .refl _, hwNode⟩, ?_⟩
  | refine And.intro ?_ ?_
theorem aCall3X_ok (a : Int) (x : ByteArray) (a' : Int) (x' : ByteArray) (r : List AV) (d : Int) (q : Nd) (c : Int) (y : ByteArray) (an : Int) (xn : ByteArray) (m : Int) (kz : Int) (z : Int) (w : ByteArray) (r' : List AV) (t0 : (d == (24 : Int)) = false) (t1 : (kz != (3 : Int)) = true) (h0 : 0 ≤ d) (h1 : d ≤ 24) : aCall3X oaCall3X a x a' x' r d q c y an xn m kz z w r' := by
 rw [aCall3X_vc]
 have e : d + (1 : Int) - (1 : Int) = d := by omega
 rw [e]
 repeat' first
  | exact rfl
  | assumption
  | exact .refl _
  | exact .rfl
  | exact cutOk _ _
  | exact Nat.le_refl 2
  | exact inR_i64 (by omega) (by omega)
  | exact .tup (.cons wkNode (.refl _))
  | exact .tup (.cons wkZero (.refl _))
  | refine ⟨(), ⟨trivial, .refl _, rfl⟩, ?_⟩
  | refine ⟨(), ⟨trivial, .refl _, .refl _ _⟩, ?_⟩
  | refine ⟨(), ⟨trivial, .refl _, hwNode⟩, ?_⟩
  | refine And.intro ?_ ?_
theorem kTake_ok (a : Int) (x : ByteArray) (r : List AV) (d : Int)  (h0 : 0 ≤ d) (h1 : d ≤ 24) : kTake (Orc.t Orc.z) a x r d := by
 rw [kTake_vc]
 repeat' first
  | exact rfl
  | assumption
  | exact .refl _
  | exact .rfl
  | exact cutOk _ _
  | exact Nat.le_refl 2
  | exact inR_i64 (by omega) (by omega)
  | exact .tup (.cons wkNode (.refl _))
  | exact .tup (.cons wkZero (.refl _))
  | refine ⟨(), ⟨trivial, .refl _, rfl⟩, ?_⟩
  | refine ⟨(), ⟨trivial, .refl _, .refl _ _⟩, ?_⟩
  | refine ⟨(), ⟨trivial, .refl _, hwNode⟩, ?_⟩
  | refine And.intro ?_ ?_
theorem uD_ok (a : Int) (x : ByteArray) (r : List AV)  : uD (Orc.t (Orc.f Orc.z)) a x r := by
 rw [uD_vc]
 repeat' first
  | exact rfl
  | assumption
  | exact .refl _
  | exact .rfl
  | exact cutOk _ _
  | exact Nat.le_refl 2
  | exact inR_i64 (by omega) (by omega)
  | exact .tup (.cons wkNode (.refl _))
  | exact .tup (.cons wkZero (.refl _))
  | refine ⟨(), ⟨trivial, .refl _, rfl⟩, ?_⟩
  | refine ⟨(), ⟨trivial, .refl _, .refl _ _⟩, ?_⟩
  | refine ⟨(), ⟨trivial, .refl _, hwNode⟩, ?_⟩
  | refine And.intro ?_ ?_
theorem uN_ok (a : Int) (x : ByteArray) (r : List AV) (d : Int) (q : Nd) (ts' : List AV) (t0 : (d == (24 : Int)) = false) (h0 : 0 ≤ d) (h1 : d ≤ 24) : uN (Orc.f Orc.z) a x r d q ts' := by
 rw [uN_vc]
 have e : d + (1 : Int) - (1 : Int) = d := by omega
 rw [e]
 repeat' first
  | exact rfl
  | assumption
  | exact .refl _
  | exact .rfl
  | exact cutOk _ _
  | exact Nat.le_refl 2
  | exact inR_i64 (by omega) (by omega)
  | exact .tup (.cons wkNode (.refl _))
  | exact .tup (.cons wkZero (.refl _))
  | refine ⟨(), ⟨trivial, .refl _, rfl⟩, ?_⟩
  | refine ⟨(), ⟨trivial, .refl _, .refl _ _⟩, ?_⟩
  | refine ⟨(), ⟨trivial, .refl _, hwNode⟩, ?_⟩
  | refine And.intro ?_ ?_
theorem uE_ok (a : Int) (x : ByteArray) (r : List AV) (d : Int) (q : Nd) (ek : Int) (ea : Int) (ts' : List AV) (t0 : (d == (24 : Int)) = false) (h0 : 0 ≤ d) (h1 : d ≤ 24) : uE (Orc.f Orc.z) a x r d q ek ea ts' := by
 rw [uE_vc]
 have e : d + (1 : Int) - (1 : Int) = d := by omega
 rw [e]
 repeat' first
  | exact rfl
  | assumption
  | exact .refl _
  | exact .rfl
  | exact cutOk _ _
  | exact Nat.le_refl 2
  | exact inR_i64 (by omega) (by omega)
  | exact .tup (.cons wkNode (.refl _))
  | exact .tup (.cons wkZero (.refl _))
  | refine ⟨(), ⟨trivial, .refl _, rfl⟩, ?_⟩
  | refine ⟨(), ⟨trivial, .refl _, .refl _ _⟩, ?_⟩
  | refine ⟨(), ⟨trivial, .refl _, hwNode⟩, ?_⟩
  | refine And.intro ?_ ?_
theorem rUpN_ok (a : Int) (x : ByteArray) (r : List AV) (d : Int) (q : Nd) (ts' : List AV)  (h0 : 0 ≤ d) (h1 : d ≤ 24) : rUpN (Orc.t Orc.z) a x r d q ts' := by
 rw [rUpN_vc]
 repeat' first
  | exact rfl
  | assumption
  | exact .refl _
  | exact .rfl
  | exact cutOk _ _
  | exact Nat.le_refl 2
  | exact inR_i64 (by omega) (by omega)
  | exact .tup (.cons wkNode (.refl _))
  | exact .tup (.cons wkZero (.refl _))
  | refine ⟨(), ⟨trivial, .refl _, rfl⟩, ?_⟩
  | refine ⟨(), ⟨trivial, .refl _, .refl _ _⟩, ?_⟩
  | refine ⟨(), ⟨trivial, .refl _, hwNode⟩, ?_⟩
  | refine And.intro ?_ ?_
theorem rUpE_ok (a : Int) (x : ByteArray) (r : List AV) (d : Int) (q : Nd) (ek : Int) (ea : Int) (ts' : List AV)  (h0 : 0 ≤ d) (h1 : d ≤ 24) : rUpE (Orc.t Orc.z) a x r d q ek ea ts' := by
 rw [rUpE_vc]
 repeat' first
  | exact rfl
  | assumption
  | exact .refl _
  | exact .rfl
  | exact cutOk _ _
  | exact Nat.le_refl 2
  | exact inR_i64 (by omega) (by omega)
  | exact .tup (.cons wkNode (.refl _))
  | exact .tup (.cons wkZero (.refl _))
  | refine ⟨(), ⟨trivial, .refl _, rfl⟩, ?_⟩
  | refine ⟨(), ⟨trivial, .refl _, .refl _ _⟩, ?_⟩
  | refine ⟨(), ⟨trivial, .refl _, hwNode⟩, ?_⟩
  | refine And.intro ?_ ?_
theorem rAtE_ok (k : Int) (a : Int) (x : ByteArray) (r : List AV) (d : Int) (q : Nd) (ek : Int) (ea : Int) (ts' : List AV) (t0 : (k == (5 : Int)) = false) (h0 : 0 ≤ d) (h1 : d ≤ 24) : rAtE (Orc.f (Orc.t Orc.z)) k a x r d q ek ea ts' := by
 rw [rAtE_vc]
 repeat' first
  | exact rfl
  | assumption
  | exact .refl _
  | exact .rfl
  | exact cutOk _ _
  | exact Nat.le_refl 2
  | exact inR_i64 (by omega) (by omega)
  | exact .tup (.cons wkNode (.refl _))
  | exact .tup (.cons wkZero (.refl _))
  | refine ⟨(), ⟨trivial, .refl _, rfl⟩, ?_⟩
  | refine ⟨(), ⟨trivial, .refl _, .refl _ _⟩, ?_⟩
  | refine ⟨(), ⟨trivial, .refl _, hwNode⟩, ?_⟩
  | refine And.intro ?_ ?_
theorem rAt0_ok (k : Int) (a : Int) (x : ByteArray) (r : List AV) (d : Int) (q : Nd) (k' : Int) (a' : Int) (x' : ByteArray) (r' : List AV) (t0 : (k == (5 : Int)) = false) (t1 : (k' == (5 : Int)) = false) (t2 : (k' == (6 : Int)) = false) (h0 : 0 ≤ d) (h1 : d ≤ 24) : rAt0 orAt0 k a x r d q k' a' x' r' := by
 rw [rAt0_vc]
 repeat' first
  | exact rfl
  | assumption
  | exact .refl _
  | exact .rfl
  | exact cutOk _ _
  | exact Nat.le_refl 2
  | exact inR_i64 (by omega) (by omega)
  | exact .tup (.cons wkNode (.refl _))
  | exact .tup (.cons wkZero (.refl _))
  | refine ⟨(), ⟨trivial, .refl _, rfl⟩, ?_⟩
  | refine ⟨(), ⟨trivial, .refl _, .refl _ _⟩, ?_⟩
  | refine ⟨(), ⟨trivial, .refl _, hwNode⟩, ?_⟩
  | refine And.intro ?_ ?_
theorem rBetD_ok (k : Int) (a : Int) (x : ByteArray) (r : List AV) (q : Nd) (a' : Int) (x' : ByteArray) (r' : List AV) (t0 : (k == (5 : Int)) = false) : rBetD orBetD k a x r q a' x' r' := by
 rw [rBetD_vc]
 repeat' first
  | exact rfl
  | assumption
  | exact .refl _
  | exact .rfl
  | exact cutOk _ _
  | exact Nat.le_refl 2
  | exact inR_i64 (by omega) (by omega)
  | exact .tup (.cons wkNode (.refl _))
  | exact .tup (.cons wkZero (.refl _))
  | refine ⟨(), ⟨trivial, .refl _, rfl⟩, ?_⟩
  | refine ⟨(), ⟨trivial, .refl _, .refl _ _⟩, ?_⟩
  | refine ⟨(), ⟨trivial, .refl _, hwNode⟩, ?_⟩
  | refine And.intro ?_ ?_
theorem rDown_ok (k : Int) (a : Int) (x : ByteArray) (r : List AV) (d : Int) (q : Nd) (a' : Int) (x' : ByteArray) (k2 : Int) (a2 : Int) (x2 : ByteArray) (r' : List AV) (t0 : (k == (5 : Int)) = false) (t1 : (d == (24 : Int)) = false) (t2 : (k2 == (2 : Int)) = false) (t3 : (k2 == (1 : Int)) = false) (h0 : 0 ≤ d) (h1 : d ≤ 24) : rDown orDown k a x r d q a' x' k2 a2 x2 r' := by
 rw [rDown_vc]
 have e : d + (1 : Int) - (1 : Int) = d := by omega
 rw [e]
 repeat' first
  | exact rfl
  | assumption
  | exact .refl _
  | exact .rfl
  | exact cutOk _ _
  | exact Nat.le_refl 2
  | exact inR_i64 (by omega) (by omega)
  | exact .tup (.cons wkNode (.refl _))
  | exact .tup (.cons wkZero (.refl _))
  | refine ⟨(), ⟨trivial, .refl _, rfl⟩, ?_⟩
  | refine ⟨(), ⟨trivial, .refl _, .refl _ _⟩, ?_⟩
  | refine ⟨(), ⟨trivial, .refl _, hwNode⟩, ?_⟩
  | refine And.intro ?_ ?_
theorem rBet2N_ok (k : Int) (a : Int) (x : ByteArray) (r : List AV) (d : Int) (q : Nd) (a' : Int) (x' : ByteArray) (a2 : Int) (x2 : ByteArray) (r' : List AV) (q2 : Nd) (ts' : List AV) (t0 : (k == (5 : Int)) = false) (t1 : (d == (24 : Int)) = false) (h0 : 0 ≤ d) (h1 : d ≤ 24) : rBet2N orBet2N k a x r d q a' x' a2 x2 r' q2 ts' := by
 rw [rBet2N_vc]
 have e : d + (1 : Int) - (1 : Int) = d := by omega
 rw [e]
 repeat' first
  | exact rfl
  | assumption
  | exact .refl _
  | exact .rfl
  | exact cutOk _ _
  | exact Nat.le_refl 2
  | exact inR_i64 (by omega) (by omega)
  | exact .tup (.cons wkNode (.refl _))
  | exact .tup (.cons wkZero (.refl _))
  | refine ⟨(), ⟨trivial, .refl _, rfl⟩, ?_⟩
  | refine ⟨(), ⟨trivial, .refl _, .refl _ _⟩, ?_⟩
  | refine ⟨(), ⟨trivial, .refl _, hwNode⟩, ?_⟩
  | refine And.intro ?_ ?_
theorem rBet2E_ok (k : Int) (a : Int) (x : ByteArray) (r : List AV) (d : Int) (q : Nd) (a' : Int) (x' : ByteArray) (a2 : Int) (x2 : ByteArray) (r' : List AV) (q2 : Nd) (ek : Int) (ea : Int) (ts' : List AV) (t0 : (k == (5 : Int)) = false) (t1 : (d == (24 : Int)) = false) (h0 : 0 ≤ d) (h1 : d ≤ 24) : rBet2E orBet2E k a x r d q a' x' a2 x2 r' q2 ek ea ts' := by
 rw [rBet2E_vc]
 have e : d + (1 : Int) - (1 : Int) = d := by omega
 rw [e]
 repeat' first
  | exact rfl
  | assumption
  | exact .refl _
  | exact .rfl
  | exact cutOk _ _
  | exact Nat.le_refl 2
  | exact inR_i64 (by omega) (by omega)
  | exact .tup (.cons wkNode (.refl _))
  | exact .tup (.cons wkZero (.refl _))
  | refine ⟨(), ⟨trivial, .refl _, rfl⟩, ?_⟩
  | refine ⟨(), ⟨trivial, .refl _, .refl _ _⟩, ?_⟩
  | refine ⟨(), ⟨trivial, .refl _, hwNode⟩, ?_⟩
  | refine And.intro ?_ ?_
theorem rBet1N_ok (k : Int) (a : Int) (x : ByteArray) (r : List AV) (d : Int) (q : Nd) (a' : Int) (x' : ByteArray) (a2 : Int) (x2 : ByteArray) (r' : List AV) (q2 : Nd) (ts' : List AV) (t0 : (k == (5 : Int)) = false) (t1 : (d == (24 : Int)) = false) (h0 : 0 ≤ d) (h1 : d ≤ 24) : rBet1N orBet1N k a x r d q a' x' a2 x2 r' q2 ts' := by
 rw [rBet1N_vc]
 have e : d + (1 : Int) - (1 : Int) = d := by omega
 rw [e]
 repeat' first
  | exact rfl
  | assumption
  | exact .refl _
  | exact .rfl
  | exact cutOk _ _
  | exact Nat.le_refl 2
  | exact inR_i64 (by omega) (by omega)
  | exact .tup (.cons wkNode (.refl _))
  | exact .tup (.cons wkZero (.refl _))
  | refine ⟨(), ⟨trivial, .refl _, rfl⟩, ?_⟩
  | refine ⟨(), ⟨trivial, .refl _, .refl _ _⟩, ?_⟩
  | refine ⟨(), ⟨trivial, .refl _, hwNode⟩, ?_⟩
  | refine And.intro ?_ ?_
theorem rBet1E_ok (k : Int) (a : Int) (x : ByteArray) (r : List AV) (d : Int) (q : Nd) (a' : Int) (x' : ByteArray) (a2 : Int) (x2 : ByteArray) (r' : List AV) (q2 : Nd) (ek : Int) (ea : Int) (ts' : List AV) (t0 : (k == (5 : Int)) = false) (t1 : (d == (24 : Int)) = false) (h0 : 0 ≤ d) (h1 : d ≤ 24) : rBet1E orBet1E k a x r d q a' x' a2 x2 r' q2 ek ea ts' := by
 rw [rBet1E_vc]
 have e : d + (1 : Int) - (1 : Int) = d := by omega
 rw [e]
 repeat' first
  | exact rfl
  | assumption
  | exact .refl _
  | exact .rfl
  | exact cutOk _ _
  | exact Nat.le_refl 2
  | exact inR_i64 (by omega) (by omega)
  | exact .tup (.cons wkNode (.refl _))
  | exact .tup (.cons wkZero (.refl _))
  | refine ⟨(), ⟨trivial, .refl _, rfl⟩, ?_⟩
  | refine ⟨(), ⟨trivial, .refl _, .refl _ _⟩, ?_⟩
  | refine ⟨(), ⟨trivial, .refl _, hwNode⟩, ?_⟩
  | refine And.intro ?_ ?_
theorem rOnlyN_ok (k : Int) (a : Int) (x : ByteArray) (r : List AV) (d : Int) (q : Nd) (a' : Int) (x' : ByteArray) (r' : List AV) (q2 : Nd) (ts' : List AV) (t0 : (k == (5 : Int)) = false) (h0 : 0 ≤ d) (h1 : d ≤ 24) : rOnlyN orOnlyN k a x r d q a' x' r' q2 ts' := by
 rw [rOnlyN_vc]
 repeat' first
  | exact rfl
  | assumption
  | exact .refl _
  | exact .rfl
  | exact cutOk _ _
  | exact Nat.le_refl 2
  | exact inR_i64 (by omega) (by omega)
  | exact .tup (.cons wkNode (.refl _))
  | exact .tup (.cons wkZero (.refl _))
  | refine ⟨(), ⟨trivial, .refl _, rfl⟩, ?_⟩
  | refine ⟨(), ⟨trivial, .refl _, .refl _ _⟩, ?_⟩
  | refine ⟨(), ⟨trivial, .refl _, hwNode⟩, ?_⟩
  | refine And.intro ?_ ?_
theorem rOnlyE_ok (k : Int) (a : Int) (x : ByteArray) (r : List AV) (d : Int) (q : Nd) (a' : Int) (x' : ByteArray) (r' : List AV) (q2 : Nd) (ek : Int) (ea : Int) (ts' : List AV) (t0 : (k == (5 : Int)) = false) (h0 : 0 ≤ d) (h1 : d ≤ 24) : rOnlyE orOnlyE k a x r d q a' x' r' q2 ek ea ts' := by
 rw [rOnlyE_vc]
 repeat' first
  | exact rfl
  | assumption
  | exact .refl _
  | exact .rfl
  | exact cutOk _ _
  | exact Nat.le_refl 2
  | exact inR_i64 (by omega) (by omega)
  | exact .tup (.cons wkNode (.refl _))
  | exact .tup (.cons wkZero (.refl _))
  | refine ⟨(), ⟨trivial, .refl _, rfl⟩, ?_⟩
  | refine ⟨(), ⟨trivial, .refl _, .refl _ _⟩, ?_⟩
  | refine ⟨(), ⟨trivial, .refl _, hwNode⟩, ?_⟩
  | refine And.intro ?_ ?_
theorem tNotD_ok (a : Int) (x : ByteArray) (r : List AV)  : tNotD otNotD a x r := by
 rw [tNotD_vc]
 repeat' first
  | exact rfl
  | assumption
  | exact .refl _
  | exact .rfl
  | exact cutOk _ _
  | exact Nat.le_refl 2
  | exact inR_i64 (by omega) (by omega)
  | exact .tup (.cons wkNode (.refl _))
  | exact .tup (.cons wkZero (.refl _))
  | refine ⟨(), ⟨trivial, .refl _, rfl⟩, ?_⟩
  | refine ⟨(), ⟨trivial, .refl _, .refl _ _⟩, ?_⟩
  | refine ⟨(), ⟨trivial, .refl _, hwNode⟩, ?_⟩
  | refine And.intro ?_ ?_
theorem tNotN_ok (a : Int) (x : ByteArray) (r : List AV) (d : Int) (q : Nd) (ts' : List AV) (t0 : (d == (24 : Int)) = false) (h0 : 0 ≤ d) (h1 : d ≤ 24) : tNotN (Orc.f (Orc.t (Orc.f Orc.z))) a x r d q ts' := by
 rw [tNotN_vc]
 have e : d + (1 : Int) - (1 : Int) = d := by omega
 rw [e]
 repeat' first
  | exact rfl
  | assumption
  | exact .refl _
  | exact .rfl
  | exact cutOk _ _
  | exact Nat.le_refl 2
  | exact inR_i64 (by omega) (by omega)
  | exact .tup (.cons wkNode (.refl _))
  | exact .tup (.cons wkZero (.refl _))
  | refine ⟨(), ⟨trivial, .refl _, rfl⟩, ?_⟩
  | refine ⟨(), ⟨trivial, .refl _, .refl _ _⟩, ?_⟩
  | refine ⟨(), ⟨trivial, .refl _, hwNode⟩, ?_⟩
  | refine And.intro ?_ ?_
theorem tNotE_ok (a : Int) (x : ByteArray) (r : List AV) (d : Int) (q : Nd) (ek : Int) (ea : Int) (ts' : List AV) (t0 : (d == (24 : Int)) = false) (h0 : 0 ≤ d) (h1 : d ≤ 24) : tNotE (Orc.f (Orc.t (Orc.f Orc.z))) a x r d q ek ea ts' := by
 rw [tNotE_vc]
 have e : d + (1 : Int) - (1 : Int) = d := by omega
 rw [e]
 repeat' first
  | exact rfl
  | assumption
  | exact .refl _
  | exact .rfl
  | exact cutOk _ _
  | exact Nat.le_refl 2
  | exact inR_i64 (by omega) (by omega)
  | exact .tup (.cons wkNode (.refl _))
  | exact .tup (.cons wkZero (.refl _))
  | refine ⟨(), ⟨trivial, .refl _, rfl⟩, ?_⟩
  | refine ⟨(), ⟨trivial, .refl _, .refl _ _⟩, ?_⟩
  | refine ⟨(), ⟨trivial, .refl _, hwNode⟩, ?_⟩
  | refine And.intro ?_ ?_
theorem tRanN_ok (k : Int) (a : Int) (x : ByteArray) (r : List AV) (d : Int) (q : Nd) (ts' : List AV) (t0 : (k != (10 : Int)) = true) (h0 : 0 ≤ d) (h1 : d ≤ 24) : tRanN (Orc.t Orc.z) k a x r d q ts' := by
 rw [tRanN_vc]
 repeat' first
  | exact rfl
  | assumption
  | exact .refl _
  | exact .rfl
  | exact cutOk _ _
  | exact Nat.le_refl 2
  | exact inR_i64 (by omega) (by omega)
  | exact .tup (.cons wkNode (.refl _))
  | exact .tup (.cons wkZero (.refl _))
  | refine ⟨(), ⟨trivial, .refl _, rfl⟩, ?_⟩
  | refine ⟨(), ⟨trivial, .refl _, .refl _ _⟩, ?_⟩
  | refine ⟨(), ⟨trivial, .refl _, hwNode⟩, ?_⟩
  | refine And.intro ?_ ?_
theorem tRanE_ok (k : Int) (a : Int) (x : ByteArray) (r : List AV) (d : Int) (q : Nd) (ek : Int) (ea : Int) (ts' : List AV) (t0 : (k != (10 : Int)) = true) (h0 : 0 ≤ d) (h1 : d ≤ 24) : tRanE (Orc.t Orc.z) k a x r d q ek ea ts' := by
 rw [tRanE_vc]
 repeat' first
  | exact rfl
  | assumption
  | exact .refl _
  | exact .rfl
  | exact cutOk _ _
  | exact Nat.le_refl 2
  | exact inR_i64 (by omega) (by omega)
  | exact .tup (.cons wkNode (.refl _))
  | exact .tup (.cons wkZero (.refl _))
  | refine ⟨(), ⟨trivial, .refl _, rfl⟩, ?_⟩
  | refine ⟨(), ⟨trivial, .refl _, .refl _ _⟩, ?_⟩
  | refine ⟨(), ⟨trivial, .refl _, hwNode⟩, ?_⟩
  | refine And.intro ?_ ?_
theorem cXe_ok (k : Int) (a : Int) (x : ByteArray) (r : List AV) (d : Int) (n : Nd) (t0 : (lookI k [Value.int IntKind.i64 (7 : Int), Value.int IntKind.i64 (8 : Int)] [AV.lit (Value.int IntKind.i64 (2 : Int)), AV.lit (Value.int IntKind.i64 (3 : Int))] != (0 : Int)) = false) (h0 : 0 ≤ d) (h1 : d ≤ 24) : cXe ocXe k a x r d n := by
 rw [cXe_vc]
 repeat' first
  | exact rfl
  | assumption
  | exact .refl _
  | exact .rfl
  | exact cutOk _ _
  | exact Nat.le_refl 2
  | exact inR_i64 (by omega) (by omega)
  | exact .tup (.cons wkNode (.refl _))
  | exact .tup (.cons wkZero (.refl _))
  | refine ⟨(), ⟨trivial, .refl _, rfl⟩, ?_⟩
  | refine ⟨(), ⟨trivial, .refl _, .refl _ _⟩, ?_⟩
  | refine ⟨(), ⟨trivial, .refl _, hwNode⟩, ?_⟩
  | refine And.intro ?_ ?_
theorem cXt_ok (k : Int) (a : Int) (x : ByteArray) (r : List AV) (d : Int) (n : Nd) (t0 : (lookI k [Value.int IntKind.i64 (9 : Int)] [AV.lit (Value.int IntKind.i64 (4 : Int))] != (0 : Int)) = false) (h0 : 0 ≤ d) (h1 : d ≤ 24) : cXt ocXt k a x r d n := by
 rw [cXt_vc]
 repeat' first
  | exact rfl
  | assumption
  | exact .refl _
  | exact .rfl
  | exact cutOk _ _
  | exact Nat.le_refl 2
  | exact inR_i64 (by omega) (by omega)
  | exact .tup (.cons wkNode (.refl _))
  | exact .tup (.cons wkZero (.refl _))
  | refine ⟨(), ⟨trivial, .refl _, rfl⟩, ?_⟩
  | refine ⟨(), ⟨trivial, .refl _, .refl _ _⟩, ?_⟩
  | refine ⟨(), ⟨trivial, .refl _, hwNode⟩, ?_⟩
  | refine And.intro ?_ ?_
theorem cEe_ok (ts : List AV) (d : Int) (n : Nd) (ek : Int) (ea : Int)  (h0 : 0 ≤ d) (h1 : d ≤ 24) : cEe ocEe ts d n ek ea := by
 rw [cEe_vc]
 repeat' first
  | exact rfl
  | assumption
  | exact .refl _
  | exact .rfl
  | exact cutOk _ _
  | exact Nat.le_refl 2
  | exact inR_i64 (by omega) (by omega)
  | exact .tup (.cons wkNode (.refl _))
  | exact .tup (.cons wkZero (.refl _))
  | refine ⟨(), ⟨trivial, .refl _, rfl⟩, ?_⟩
  | refine ⟨(), ⟨trivial, .refl _, .refl _ _⟩, ?_⟩
  | refine ⟨(), ⟨trivial, .refl _, hwNode⟩, ?_⟩
  | refine And.intro ?_ ?_
theorem cEt_ok (ts : List AV) (d : Int) (n : Nd) (ek : Int) (ea : Int)  (h0 : 0 ≤ d) (h1 : d ≤ 24) : cEt ocEt ts d n ek ea := by
 rw [cEt_vc]
 repeat' first
  | exact rfl
  | assumption
  | exact .refl _
  | exact .rfl
  | exact cutOk _ _
  | exact Nat.le_refl 2
  | exact inR_i64 (by omega) (by omega)
  | exact .tup (.cons wkNode (.refl _))
  | exact .tup (.cons wkZero (.refl _))
  | refine ⟨(), ⟨trivial, .refl _, rfl⟩, ?_⟩
  | refine ⟨(), ⟨trivial, .refl _, .refl _ _⟩, ?_⟩
  | refine ⟨(), ⟨trivial, .refl _, hwNode⟩, ?_⟩
  | refine And.intro ?_ ?_
theorem cR7N_ok (a : Int) (x : ByteArray) (r : List AV) (d : Int) (n : Nd) (q : Nd) (us : List AV) (zs : List AV) (m : Nd)  (h0 : 0 ≤ d) (h1 : d ≤ 24) : cR7N ocR7N a x r d n q us zs m := by
 rw [cR7N_vc]
 repeat' first
  | exact rfl
  | assumption
  | exact .refl _
  | exact .rfl
  | exact cutOk _ _
  | exact Nat.le_refl 2
  | exact inR_i64 (by omega) (by omega)
  | exact .tup (.cons wkNode (.refl _))
  | exact .tup (.cons wkZero (.refl _))
  | refine ⟨(), ⟨trivial, .refl _, rfl⟩, ?_⟩
  | refine ⟨(), ⟨trivial, .refl _, .refl _ _⟩, ?_⟩
  | refine ⟨(), ⟨trivial, .refl _, hwNode⟩, ?_⟩
  | refine And.intro ?_ ?_
theorem cR7F_ok (a : Int) (x : ByteArray) (r : List AV) (d : Int) (n : Nd) (q : Nd) (us : List AV) (zs : List AV) (m : Nd) (fk : Int) (fa : Int)  (h0 : 0 ≤ d) (h1 : d ≤ 24) : cR7F ocR7F a x r d n q us zs m fk fa := by
 rw [cR7F_vc]
 repeat' first
  | exact rfl
  | assumption
  | exact .refl _
  | exact .rfl
  | exact cutOk _ _
  | exact Nat.le_refl 2
  | exact inR_i64 (by omega) (by omega)
  | exact .tup (.cons wkNode (.refl _))
  | exact .tup (.cons wkZero (.refl _))
  | refine ⟨(), ⟨trivial, .refl _, rfl⟩, ?_⟩
  | refine ⟨(), ⟨trivial, .refl _, .refl _ _⟩, ?_⟩
  | refine ⟨(), ⟨trivial, .refl _, hwNode⟩, ?_⟩
  | refine And.intro ?_ ?_
theorem cR7E_ok (a : Int) (x : ByteArray) (r : List AV) (d : Int) (n : Nd) (q : Nd) (us : List AV) (zs : List AV) (m : Nd) (ek : Int) (ea : Int) (fk : Int) (fa : Int)  (h0 : 0 ≤ d) (h1 : d ≤ 24) : cR7E ocR7E a x r d n q us zs m ek ea fk fa := by
 rw [cR7E_vc]
 repeat' first
  | exact rfl
  | assumption
  | exact .refl _
  | exact .rfl
  | exact cutOk _ _
  | exact Nat.le_refl 2
  | exact inR_i64 (by omega) (by omega)
  | exact .tup (.cons wkNode (.refl _))
  | exact .tup (.cons wkZero (.refl _))
  | refine ⟨(), ⟨trivial, .refl _, rfl⟩, ?_⟩
  | refine ⟨(), ⟨trivial, .refl _, .refl _ _⟩, ?_⟩
  | refine ⟨(), ⟨trivial, .refl _, hwNode⟩, ?_⟩
  | refine And.intro ?_ ?_
theorem cR8N_ok (a : Int) (x : ByteArray) (r : List AV) (d : Int) (n : Nd) (q : Nd) (us : List AV) (zs : List AV) (m : Nd)  (h0 : 0 ≤ d) (h1 : d ≤ 24) : cR8N ocR8N a x r d n q us zs m := by
 rw [cR8N_vc]
 repeat' first
  | exact rfl
  | assumption
  | exact .refl _
  | exact .rfl
  | exact cutOk _ _
  | exact Nat.le_refl 2
  | exact inR_i64 (by omega) (by omega)
  | exact .tup (.cons wkNode (.refl _))
  | exact .tup (.cons wkZero (.refl _))
  | refine ⟨(), ⟨trivial, .refl _, rfl⟩, ?_⟩
  | refine ⟨(), ⟨trivial, .refl _, .refl _ _⟩, ?_⟩
  | refine ⟨(), ⟨trivial, .refl _, hwNode⟩, ?_⟩
  | refine And.intro ?_ ?_
theorem cR8F_ok (a : Int) (x : ByteArray) (r : List AV) (d : Int) (n : Nd) (q : Nd) (us : List AV) (zs : List AV) (m : Nd) (fk : Int) (fa : Int)  (h0 : 0 ≤ d) (h1 : d ≤ 24) : cR8F ocR8F a x r d n q us zs m fk fa := by
 rw [cR8F_vc]
 repeat' first
  | exact rfl
  | assumption
  | exact .refl _
  | exact .rfl
  | exact cutOk _ _
  | exact Nat.le_refl 2
  | exact inR_i64 (by omega) (by omega)
  | exact .tup (.cons wkNode (.refl _))
  | exact .tup (.cons wkZero (.refl _))
  | refine ⟨(), ⟨trivial, .refl _, rfl⟩, ?_⟩
  | refine ⟨(), ⟨trivial, .refl _, .refl _ _⟩, ?_⟩
  | refine ⟨(), ⟨trivial, .refl _, hwNode⟩, ?_⟩
  | refine And.intro ?_ ?_
theorem cR8E_ok (a : Int) (x : ByteArray) (r : List AV) (d : Int) (n : Nd) (q : Nd) (us : List AV) (zs : List AV) (m : Nd) (ek : Int) (ea : Int) (fk : Int) (fa : Int)  (h0 : 0 ≤ d) (h1 : d ≤ 24) : cR8E ocR8E a x r d n q us zs m ek ea fk fa := by
 rw [cR8E_vc]
 repeat' first
  | exact rfl
  | assumption
  | exact .refl _
  | exact .rfl
  | exact cutOk _ _
  | exact Nat.le_refl 2
  | exact inR_i64 (by omega) (by omega)
  | exact .tup (.cons wkNode (.refl _))
  | exact .tup (.cons wkZero (.refl _))
  | refine ⟨(), ⟨trivial, .refl _, rfl⟩, ?_⟩
  | refine ⟨(), ⟨trivial, .refl _, .refl _ _⟩, ?_⟩
  | refine ⟨(), ⟨trivial, .refl _, hwNode⟩, ?_⟩
  | refine And.intro ?_ ?_
theorem cR9N_ok (a : Int) (x : ByteArray) (r : List AV) (d : Int) (n : Nd) (q : Nd) (us : List AV) (zs : List AV) (m : Nd)  (h0 : 0 ≤ d) (h1 : d ≤ 24) : cR9N ocR9N a x r d n q us zs m := by
 rw [cR9N_vc]
 repeat' first
  | exact rfl
  | assumption
  | exact .refl _
  | exact .rfl
  | exact cutOk _ _
  | exact Nat.le_refl 2
  | exact inR_i64 (by omega) (by omega)
  | exact .tup (.cons wkNode (.refl _))
  | exact .tup (.cons wkZero (.refl _))
  | refine ⟨(), ⟨trivial, .refl _, rfl⟩, ?_⟩
  | refine ⟨(), ⟨trivial, .refl _, .refl _ _⟩, ?_⟩
  | refine ⟨(), ⟨trivial, .refl _, hwNode⟩, ?_⟩
  | refine And.intro ?_ ?_
theorem cR9F_ok (a : Int) (x : ByteArray) (r : List AV) (d : Int) (n : Nd) (q : Nd) (us : List AV) (zs : List AV) (m : Nd) (fk : Int) (fa : Int)  (h0 : 0 ≤ d) (h1 : d ≤ 24) : cR9F ocR9F a x r d n q us zs m fk fa := by
 rw [cR9F_vc]
 repeat' first
  | exact rfl
  | assumption
  | exact .refl _
  | exact .rfl
  | exact cutOk _ _
  | exact Nat.le_refl 2
  | exact inR_i64 (by omega) (by omega)
  | exact .tup (.cons wkNode (.refl _))
  | exact .tup (.cons wkZero (.refl _))
  | refine ⟨(), ⟨trivial, .refl _, rfl⟩, ?_⟩
  | refine ⟨(), ⟨trivial, .refl _, .refl _ _⟩, ?_⟩
  | refine ⟨(), ⟨trivial, .refl _, hwNode⟩, ?_⟩
  | refine And.intro ?_ ?_
theorem cR9E_ok (a : Int) (x : ByteArray) (r : List AV) (d : Int) (n : Nd) (q : Nd) (us : List AV) (zs : List AV) (m : Nd) (ek : Int) (ea : Int) (fk : Int) (fa : Int)  (h0 : 0 ≤ d) (h1 : d ≤ 24) : cR9E ocR9E a x r d n q us zs m ek ea fk fa := by
 rw [cR9E_vc]
 repeat' first
  | exact rfl
  | assumption
  | exact .refl _
  | exact .rfl
  | exact cutOk _ _
  | exact Nat.le_refl 2
  | exact inR_i64 (by omega) (by omega)
  | exact .tup (.cons wkNode (.refl _))
  | exact .tup (.cons wkZero (.refl _))
  | refine ⟨(), ⟨trivial, .refl _, rfl⟩, ?_⟩
  | refine ⟨(), ⟨trivial, .refl _, .refl _ _⟩, ?_⟩
  | refine ⟨(), ⟨trivial, .refl _, hwNode⟩, ?_⟩
  | refine And.intro ?_ ?_
theorem gExN_ok (ts : List AV) (us : List AV) (d : Int) (q : Nd) (zs : List AV) (m : Nd)  (h0 : 0 ≤ d) (h1 : d ≤ 24) : gExN (Orc.z) ts us d q zs m := by
 rw [gExN_vc]
 repeat' first
  | exact rfl
  | assumption
  | exact .refl _
  | exact .rfl
  | exact cutOk _ _
  | exact Nat.le_refl 2
  | exact inR_i64 (by omega) (by omega)
  | exact .tup (.cons wkNode (.refl _))
  | exact .tup (.cons wkZero (.refl _))
  | refine ⟨(), ⟨trivial, .refl _, rfl⟩, ?_⟩
  | refine ⟨(), ⟨trivial, .refl _, .refl _ _⟩, ?_⟩
  | refine ⟨(), ⟨trivial, .refl _, hwNode⟩, ?_⟩
  | refine And.intro ?_ ?_
theorem gExF_ok (ts : List AV) (us : List AV) (d : Int) (q : Nd) (zs : List AV) (m : Nd) (fk : Int) (fa : Int)  (h0 : 0 ≤ d) (h1 : d ≤ 24) : gExF (Orc.z) ts us d q zs m fk fa := by
 rw [gExF_vc]
 repeat' first
  | exact rfl
  | assumption
  | exact .refl _
  | exact .rfl
  | exact cutOk _ _
  | exact Nat.le_refl 2
  | exact inR_i64 (by omega) (by omega)
  | exact .tup (.cons wkNode (.refl _))
  | exact .tup (.cons wkZero (.refl _))
  | refine ⟨(), ⟨trivial, .refl _, rfl⟩, ?_⟩
  | refine ⟨(), ⟨trivial, .refl _, .refl _ _⟩, ?_⟩
  | refine ⟨(), ⟨trivial, .refl _, hwNode⟩, ?_⟩
  | refine And.intro ?_ ?_
theorem gExE_ok (ts : List AV) (us : List AV) (d : Int) (q : Nd) (zs : List AV) (m : Nd) (ek : Int) (ea : Int) (fk : Int) (fa : Int)  (h0 : 0 ≤ d) (h1 : d ≤ 24) : gExE (Orc.z) ts us d q zs m ek ea fk fa := by
 rw [gExE_vc]
 repeat' first
  | exact rfl
  | assumption
  | exact .refl _
  | exact .rfl
  | exact cutOk _ _
  | exact Nat.le_refl 2
  | exact inR_i64 (by omega) (by omega)
  | exact .tup (.cons wkNode (.refl _))
  | exact .tup (.cons wkZero (.refl _))
  | refine ⟨(), ⟨trivial, .refl _, rfl⟩, ?_⟩
  | refine ⟨(), ⟨trivial, .refl _, .refl _ _⟩, ?_⟩
  | refine ⟨(), ⟨trivial, .refl _, hwNode⟩, ?_⟩
  | refine And.intro ?_ ?_
theorem gTeN_ok (ts : List AV) (us : List AV) (d : Int) (q : Nd) (zs : List AV) (m : Nd)  (h0 : 0 ≤ d) (h1 : d ≤ 24) : gTeN (Orc.z) ts us d q zs m := by
 rw [gTeN_vc]
 repeat' first
  | exact rfl
  | assumption
  | exact .refl _
  | exact .rfl
  | exact cutOk _ _
  | exact Nat.le_refl 2
  | exact inR_i64 (by omega) (by omega)
  | exact .tup (.cons wkNode (.refl _))
  | exact .tup (.cons wkZero (.refl _))
  | refine ⟨(), ⟨trivial, .refl _, rfl⟩, ?_⟩
  | refine ⟨(), ⟨trivial, .refl _, .refl _ _⟩, ?_⟩
  | refine ⟨(), ⟨trivial, .refl _, hwNode⟩, ?_⟩
  | refine And.intro ?_ ?_
theorem gTeF_ok (ts : List AV) (us : List AV) (d : Int) (q : Nd) (zs : List AV) (m : Nd) (fk : Int) (fa : Int)  (h0 : 0 ≤ d) (h1 : d ≤ 24) : gTeF (Orc.z) ts us d q zs m fk fa := by
 rw [gTeF_vc]
 repeat' first
  | exact rfl
  | assumption
  | exact .refl _
  | exact .rfl
  | exact cutOk _ _
  | exact Nat.le_refl 2
  | exact inR_i64 (by omega) (by omega)
  | exact .tup (.cons wkNode (.refl _))
  | exact .tup (.cons wkZero (.refl _))
  | refine ⟨(), ⟨trivial, .refl _, rfl⟩, ?_⟩
  | refine ⟨(), ⟨trivial, .refl _, .refl _ _⟩, ?_⟩
  | refine ⟨(), ⟨trivial, .refl _, hwNode⟩, ?_⟩
  | refine And.intro ?_ ?_
theorem gTeE_ok (ts : List AV) (us : List AV) (d : Int) (q : Nd) (zs : List AV) (m : Nd) (ek : Int) (ea : Int) (fk : Int) (fa : Int)  (h0 : 0 ≤ d) (h1 : d ≤ 24) : gTeE (Orc.z) ts us d q zs m ek ea fk fa := by
 rw [gTeE_vc]
 repeat' first
  | exact rfl
  | assumption
  | exact .refl _
  | exact .rfl
  | exact cutOk _ _
  | exact Nat.le_refl 2
  | exact inR_i64 (by omega) (by omega)
  | exact .tup (.cons wkNode (.refl _))
  | exact .tup (.cons wkZero (.refl _))
  | refine ⟨(), ⟨trivial, .refl _, rfl⟩, ?_⟩
  | refine ⟨(), ⟨trivial, .refl _, .refl _ _⟩, ?_⟩
  | refine ⟨(), ⟨trivial, .refl _, hwNode⟩, ?_⟩
  | refine And.intro ?_ ?_
end
end Go.Proofs.YtpofhijgccocpaaDoor
end
section
namespace Go.Proofs.YtpofhijgccocpaaDoor
open Go.AS Go.TP
noncomputable section
def gForm (os : Orc) (w : ByteArray) (v : Int) : Prop := gF XB [fForm] fForm os [s0 w] (i0 v)
end
end Go.Proofs.YtpofhijgccocpaaDoor
end
section
namespace Go.Proofs.YtpofhijgccocpaaDoor
open Go Go.AS Go.TP
def ogForm : Orc := Orc.s (Orc.t Orc.z) (Orc.s (Orc.t Orc.z) (Orc.s Orc.z (Orc.s (Orc.t Orc.z) (Orc.s (Orc.t Orc.z) (Orc.s (Orc.t Orc.z) (Orc.s (Orc.t Orc.z) (Orc.s (Orc.t Orc.z) (Orc.s Orc.z (Orc.s (Orc.t Orc.z) (Orc.s (Orc.t Orc.z) (Orc.s Orc.z Orc.z)))))))))))
theorem gForm_vc (w : ByteArray) (v : Int) : gForm ogForm w v = (let z1 := (i0 (2 : Int)); let z2 := (ByteArray.toList w == ByteArray.toList wChildren); let z3 := (ByteArray.toList w == ByteArray.toList wParents); let z4 := (ByteArray.toList w == ByteArray.toList wMaster); let z5 := (ByteArray.toList w == ByteArray.toList wHeads); let z6 := (ByteArray.toList w == ByteArray.toList wRoots); let z7 := (ByteArray.toList w == ByteArray.toList wFirst); let z8 := (ByteArray.toList w == ByteArray.toList wLimit); let z9 := (ByteArray.toList w == ByteArray.toList wNone); let z10 := (ByteArray.toList w == ByteArray.toList wDesc); let z11 := (ByteArray.toList w == ByteArray.toList wLast); let z12 := (ByteArray.toList w == ByteArray.toList wAll); let z13 := (ByteArray.toList w == ByteArray.toList wAnc); (z12 = true → Yt (Wk (i0 (1 : Int)) (i0 v) ∧ SameH (hpL []) (hpL []))) ∧ (z12 = false → (z9 = true → Yt (Wk (i0 (1 : Int)) (i0 v) ∧ SameH (hpL []) (hpL []))) ∧ (z9 = false → (z4 = true → Wk (i0 (1 : Int)) (i0 v) ∧ SameH (hpL []) (hpL [])) ∧ (z4 = false → (z3 = true → Yt (Wk z1 (i0 v) ∧ SameH (hpL []) (hpL []))) ∧ (z3 = false → (z2 = true → Yt (Wk z1 (i0 v) ∧ SameH (hpL []) (hpL []))) ∧ (z2 = false → (z13 = true → Yt (Wk z1 (i0 v) ∧ SameH (hpL []) (hpL []))) ∧ (z13 = false → (z10 = true → Yt (Wk z1 (i0 v) ∧ SameH (hpL []) (hpL []))) ∧ (z10 = false → (z5 = true → Yt (Wk z1 (i0 v) ∧ SameH (hpL []) (hpL []))) ∧ (z5 = false → (z6 = true → Wk z1 (i0 v) ∧ SameH (hpL []) (hpL [])) ∧ (z6 = false → (z7 = true → Yt (Wk (i0 (3 : Int)) (i0 v) ∧ SameH (hpL []) (hpL []))) ∧ (z7 = false → (z11 = true → Yt (Wk (i0 (3 : Int)) (i0 v) ∧ SameH (hpL []) (hpL []))) ∧ (z11 = false → (z8 = true → Wk (i0 (3 : Int)) (i0 v) ∧ SameH (hpL []) (hpL [])) ∧ (z8 = false → Wk (i0 (0 : Int)) (i0 v) ∧ SameH (hpL []) (hpL [])))))))))))))) := by kernel_rfl
end Go.Proofs.YtpofhijgccocpaaDoor
end
section
namespace Go.Proofs.YtpofhijgccocpaaDoor
open Go.AS Go.TP
noncomputable section
theorem formS_eq (w : ByteArray) : formS w = if w = wAll ∨ w = wNone ∨ w = wMaster then 1 else if w = wParents ∨ w = wChildren ∨ w = wAnc ∨ w = wDesc ∨ w = wHeads ∨ w = wRoots then 2 else if w = wFirst ∨ w = wLast ∨ w = wLimit then 3 else 0 := rfl
theorem gForm_ok (w : ByteArray) : gForm ogForm w (formS w) := by
 rw [gForm_vc, formS_eq, strEq' w wAll, strEq' w wNone, strEq' w wMaster, strEq' w wParents, strEq' w wChildren, strEq' w wAnc, strEq' w wDesc, strEq' w wHeads, strEq' w wRoots, strEq' w wFirst, strEq' w wLast, strEq' w wLimit]
 refine ⟨fun p => ?_, fun n0 => ?_⟩
 · have p := of_decide_eq_true p; rw [if_pos (.inl p)]; exact ⟨rfl, .refl _, .rfl⟩
 replace n0 := of_decide_eq_false n0
 refine ⟨fun p => ?_, fun n1 => ?_⟩
 · have p := of_decide_eq_true p; rw [if_pos (.inr (.inl p))]; exact ⟨rfl, .refl _, .rfl⟩
 replace n1 := of_decide_eq_false n1
 refine ⟨fun p => ?_, fun n2 => ?_⟩
 · have p := of_decide_eq_true p; rw [if_pos (.inr (.inr p))]; exact ⟨.refl _, .rfl⟩
 replace n2 := of_decide_eq_false n2
 refine ⟨fun p => ?_, fun n3 => ?_⟩
 · have p := of_decide_eq_true p; rw [if_neg (fun q => q.elim n0 (fun q => q.elim n1 n2))]; rw [if_pos (.inl p)]; exact ⟨rfl, .refl _, .rfl⟩
 replace n3 := of_decide_eq_false n3
 refine ⟨fun p => ?_, fun n4 => ?_⟩
 · have p := of_decide_eq_true p; rw [if_neg (fun q => q.elim n0 (fun q => q.elim n1 n2))]; rw [if_pos (.inr (.inl p))]; exact ⟨rfl, .refl _, .rfl⟩
 replace n4 := of_decide_eq_false n4
 refine ⟨fun p => ?_, fun n5 => ?_⟩
 · have p := of_decide_eq_true p; rw [if_neg (fun q => q.elim n0 (fun q => q.elim n1 n2))]; rw [if_pos (.inr (.inr (.inl p)))]; exact ⟨rfl, .refl _, .rfl⟩
 replace n5 := of_decide_eq_false n5
 refine ⟨fun p => ?_, fun n6 => ?_⟩
 · have p := of_decide_eq_true p; rw [if_neg (fun q => q.elim n0 (fun q => q.elim n1 n2))]; rw [if_pos (.inr (.inr (.inr (.inl p))))]; exact ⟨rfl, .refl _, .rfl⟩
 replace n6 := of_decide_eq_false n6
 refine ⟨fun p => ?_, fun n7 => ?_⟩
 · have p := of_decide_eq_true p; rw [if_neg (fun q => q.elim n0 (fun q => q.elim n1 n2))]; rw [if_pos (.inr (.inr (.inr (.inr (.inl p)))))]; exact ⟨rfl, .refl _, .rfl⟩
 replace n7 := of_decide_eq_false n7
 refine ⟨fun p => ?_, fun n8 => ?_⟩
 · have p := of_decide_eq_true p; rw [if_neg (fun q => q.elim n0 (fun q => q.elim n1 n2))]; rw [if_pos (.inr (.inr (.inr (.inr (.inr p)))))]; exact ⟨.refl _, .rfl⟩
 replace n8 := of_decide_eq_false n8
 refine ⟨fun p => ?_, fun n9 => ?_⟩
 · have p := of_decide_eq_true p; rw [if_neg (fun q => q.elim n0 (fun q => q.elim n1 n2))]; rw [if_neg (fun q => q.elim n3 (fun q => q.elim n4 (fun q => q.elim n5 (fun q => q.elim n6 (fun q => q.elim n7 n8)))))]; rw [if_pos (.inl p)]; exact ⟨rfl, .refl _, .rfl⟩
 replace n9 := of_decide_eq_false n9
 refine ⟨fun p => ?_, fun n10 => ?_⟩
 · have p := of_decide_eq_true p; rw [if_neg (fun q => q.elim n0 (fun q => q.elim n1 n2))]; rw [if_neg (fun q => q.elim n3 (fun q => q.elim n4 (fun q => q.elim n5 (fun q => q.elim n6 (fun q => q.elim n7 n8)))))]; rw [if_pos (.inr (.inl p))]; exact ⟨rfl, .refl _, .rfl⟩
 replace n10 := of_decide_eq_false n10
 refine ⟨fun p => ?_, fun n11 => ?_⟩
 · have p := of_decide_eq_true p; rw [if_neg (fun q => q.elim n0 (fun q => q.elim n1 n2))]; rw [if_neg (fun q => q.elim n3 (fun q => q.elim n4 (fun q => q.elim n5 (fun q => q.elim n6 (fun q => q.elim n7 n8)))))]; rw [if_pos (.inr (.inr p))]; exact ⟨.refl _, .rfl⟩
 replace n11 := of_decide_eq_false n11
 rw [if_neg (fun q => q.elim n0 (fun q => q.elim n1 n2))]; rw [if_neg (fun q => q.elim n3 (fun q => q.elim n4 (fun q => q.elim n5 (fun q => q.elim n6 (fun q => q.elim n7 n8)))))]; rw [if_neg (fun q => q.elim n9 (fun q => q.elim n10 n11))]; exact ⟨.refl _, .rfl⟩
set_option maxRecDepth 100000 in
theorem form_ok (w : ByteArray) : F fForm [s0 w] (i0 (formS w)) := F_ok XB_ok rfl (by kernel_rfl) (by kernel_rfl) (by kernel_rfl) (gForm_ok w)
end
end Go.Proofs.YtpofhijgccocpaaDoor
end
section
namespace Go.TP
open Go.AS
def okT : List Tk → Prop
 | [] => False
 | t :: r => t.text.size ≤ 600 ∧ match r with
  | [] => t.kind = 11
  | _ :: _ => t.kind ≠ 11 ∧ okT r
theorem okT_ne {ts : List Tk} (h : okT ts) : ts ≠ [] := by rintro rfl; exact h
theorem okT_cons {t : Tk} {r : List Tk} (h : okT (t :: r)) (hk : t.kind ≠ 11) : okT r := by
 unfold okT at h
 cases r with
 | nil => exact absurd h.2 hk
 | cons u r => exact h.2.2
theorem okT_size {t : Tk} {r : List Tk} (h : okT (t :: r)) : t.text.size ≤ 600 := by unfold okT at h; exact h.1
theorem takeT_cons {t : Tk} {r : List Tk} (hk : t.kind ≠ 11) : takeT (t :: r) = r := if_neg hk
theorem takeT_ok {ts : List Tk} (h : okT ts) : okT (takeT ts) ∧ (takeT ts).length ≤ ts.length := by
 cases ts with
 | nil => exact h.elim
 | cons t r =>
  show okT (if t.kind = 11 then t :: r else r) ∧ (if t.kind = 11 then t :: r else r).length ≤ (t :: r).length
  by_cases hk : t.kind = 11
  · rw [if_pos hk]; exact ⟨h, Nat.le_refl _⟩
  · rw [if_neg hk]; exact ⟨okT_cons h hk, by rw [List.length_cons]; omega⟩
def Inv (ts : List Tk) (r : R) : Prop := okT r.ts ∧ r.ts.length ≤ ts.length
theorem Inv.refl {ts : List Tk} {n : Nd} {e : Option (Int × Int)} (h : okT ts) : Inv ts ⟨n, e, ts⟩ := ⟨h, Nat.le_refl _⟩
theorem Inv.of {ts us : List Tk} {r : R} (h : Inv us r) (hl : us.length ≤ ts.length) : Inv ts r := ⟨h.1, Nat.le_trans h.2 hl⟩
theorem Inv.mk' {ts : List Tk} {r : R} (h : Inv ts r) {n : Nd} {e : Option (Int × Int)} : Inv ts ⟨n, e, r.ts⟩ := h
theorem chain_inv {part : List Tk → R} (hp : ∀ ts, okT ts → Inv ts (part ts)) (km : Int → Int) : ∀ (n : Nat) (r : R), okT r.ts → Inv r.ts (chainS part km n r)
 | 0, r, h => by rw [chainS]; exact ⟨h, Nat.le_refl _⟩
 | n + 1, r, h => by
  rw [chainS]
  split
  · have h1 := takeT_ok h
    have h2 := hp _ h1.1
    exact (chain_inv hp km n ⟨.mk (km (headT r.ts).kind) (headT r.ts).at_ 0 ByteArray.empty [r.n, (part (takeT r.ts)).n], (part (takeT r.ts)).e, (part (takeT r.ts)).ts⟩ h2.1).of (Nat.le_trans h2.2 h1.2)
  · exact ⟨h, Nat.le_refl _⟩
theorem expect_inv {k : Int} {ts : List Tk} (h : okT ts) : okT (expectS k ts).2 ∧ (expectS k ts).2.length ≤ ts.length := by
 unfold expectS
 split
 · exact takeT_ok h
 · exact ⟨h, Nat.le_refl _⟩
theorem within_inv {d : Int} {t : Tk} {n0 : Nd} {ts us : List Tk} {f : Int → List Tk → R} (h : okT us) (hl : us.length ≤ ts.length) (hf : Inv ts (f (d + 1) us)) : Inv ts (withinS d t n0 us f) := by
 unfold withinS
 split
 · exact ⟨h, hl⟩
 · exact hf
theorem PF_inv : ∀ (f : Nat) (lv : Lv) (d : Int) (ts : List Tk), okT ts → Inv ts (PF f lv d ts)
 | 0, _, _, ts, h => by rw [PF]; exact .refl h
 | f + 1, .expr, d, ts, h => by
  rw [PF]
  have h1 := PF_inv f .term d ts h
  exact (chain_inv (fun us hu => PF_inv f .term d us hu) kmE f _ h1.1).of h1.2
 | f + 1, .term, d, ts, h => by
  rw [PF]
  have h1 := PF_inv f .part d ts h
  exact (chain_inv (fun us hu => PF_inv f .part d us hu) kmT f _ h1.1).of h1.2
 | f + 1, .part, d, ts, h => by
  rw [PF]
  simp only
  split
  · exact PF_inv f .ranged d ts h
  · have h1 := takeT_ok h
    exact within_inv h1.1 h1.2 ((PF_inv f .part (d + 1) _ h1.1).of h1.2)
 | f + 1, .ranged, d, ts, h => by
  rw [PF]
  simp only
  have h1 := takeT_ok h
  split
  · exact within_inv h1.1 h1.2 ((PF_inv f .atom (d + 1) _ h1.1).of h1.2)
  · have h2 := PF_inv f .atom d ts h
    have second : ∀ (d : Int) (us : List Tk) (k a : Int) (n : Nd) (m : Bool), okT us → us.length ≤ ts.length → Inv ts (secondS (PF f .atom d) k a n m us) := fun d us k a n m hu hl => by
      unfold secondS
      split
      · exact ⟨hu, hl⟩
      · exact (PF_inv f .atom d us hu).of hl
    have h3 := takeT_ok h2.1
    split
    · exact h2
    · split
      · exact within_inv h3.1 (Nat.le_trans h3.2 h2.2) (second _ _ _ _ _ _ h3.1 (Nat.le_trans h3.2 h2.2))
      · split
        · exact second _ _ _ _ _ _ h3.1 (Nat.le_trans h3.2 h2.2)
        · exact h2
 | f + 1, .atom, d, ts, h => by
  rw [PF]
  simp only
  have h1 := takeT_ok h
  have h3 := takeT_ok h1.1
  split
  · refine within_inv h1.1 h1.2 ?_
    have h2 := PF_inv f .expr (d + 1) _ h1.1
    split
    · exact h2.of h1.2
    · have h4 := expect_inv (k := 3) h2.1
      exact ⟨h4.1, Nat.le_trans h4.2 (Nat.le_trans h2.2 h1.2)⟩
  · split
    · split
      · unfold callS
        simp only
        split
        · exact ⟨h1.1, h1.2⟩
        · refine within_inv h3.1 (Nat.le_trans h3.2 h1.2) ?_
          have l3 := Nat.le_trans h3.2 h1.2
          split
          · have h4 := expect_inv (k := 3) h3.1
            exact ⟨h4.1, Nat.le_trans h4.2 l3⟩
          · have h2 := PF_inv f .expr (d + 1) _ h3.1
            have l2 := Nat.le_trans h2.2 l3
            split
            · exact ⟨h2.1, l2⟩
            · split
              · have h4 := expect_inv (k := 3) h2.1
                exact ⟨h4.1, Nat.le_trans h4.2 l2⟩
              · have h4 := expect_inv (k := 4) h2.1
                have l4 := Nat.le_trans h4.2 l2
                split
                · exact ⟨h4.1, l4⟩
                · split
                  · exact ⟨h4.1, l4⟩
                  · have h5 := takeT_ok h4.1
                    have h6 := expect_inv (k := 3) h5.1
                    exact ⟨h6.1, Nat.le_trans h6.2 (Nat.le_trans h5.2 l4)⟩
      · split
        · exact ⟨h1.1, h1.2⟩
        · exact ⟨h1.1, h1.2⟩
    · exact ⟨h, Nat.le_refl _⟩
end Go.TP
namespace Go.TP
theorem PF_atom (f : Nat) (d k a : Int) (x : ByteArray) (r : List Tk) : PF (f + 1) .atom d (⟨k, a, x⟩ :: r) =
  if k = 2 then withinS d ⟨k, a, x⟩ .zero (takeT (⟨k, a, x⟩ :: r)) fun d ts =>
   let q := PF f .expr d ts
   if q.e ≠ none then q else let x := expectS 3 q.ts; ⟨q.n, x.1, x.2⟩
  else if k = 1 then
   if (headT (takeT (⟨k, a, x⟩ :: r))).kind = 2 then callS (fun d ts => PF f .expr d ts) d ⟨k, a, x⟩ (takeT (⟨k, a, x⟩ :: r))
   else if isPrefixS x then ⟨.mk 1 a 0 x [], none, takeT (⟨k, a, x⟩ :: r)⟩
   else ⟨.zero, some (15, a), takeT (⟨k, a, x⟩ :: r)⟩
  else ⟨.zero, some (15, a), ⟨k, a, x⟩ :: r⟩ := by rw [PF]; rfl
theorem PF_ranged (f : Nat) (d k a : Int) (x : ByteArray) (r : List Tk) : PF (f + 1) .ranged d (⟨k, a, x⟩ :: r) =
  if k = 5 then withinS d ⟨k, a, x⟩ (.mk 6 a 0 ByteArray.empty []) (takeT (⟨k, a, x⟩ :: r)) fun d ts => ⟨.mk 6 a 0 ByteArray.empty [(PF f .atom d ts).n], (PF f .atom d ts).e, (PF f .atom d ts).ts⟩
  else
   let q := PF f .atom d (⟨k, a, x⟩ :: r)
   if q.e ≠ none then q
   else
    let u := headT q.ts
    if u.kind = 5 then withinS d u (.mk 8 u.at_ 0 ByteArray.empty [q.n]) (takeT q.ts) fun d ts => secondS (PF f .atom d) 8 u.at_ q.n false ts
    else if u.kind = 6 then secondS (PF f .atom d) 9 u.at_ q.n true (takeT q.ts)
    else ⟨q.n, none, q.ts⟩ := by rw [PF]; rfl
theorem PF_part (f : Nat) (d k a : Int) (x : ByteArray) (r : List Tk) : PF (f + 1) .part d (⟨k, a, x⟩ :: r) =
  if k ≠ 10 then PF f .ranged d (⟨k, a, x⟩ :: r)
  else withinS d ⟨k, a, x⟩ (.mk 5 a 0 ByteArray.empty []) (takeT (⟨k, a, x⟩ :: r)) fun d ts => ⟨.mk 5 a 0 ByteArray.empty [(PF f .part d ts).n], (PF f .part d ts).e, (PF f .part d ts).ts⟩ := by rw [PF]; rfl
theorem callS_eq (expr : Int → List Tk → R) (d : Int) (w u : Tk) (r : List Tk) : callS expr d w (u :: r) =
  if formS w.text = 0 then ⟨.zero, some (15, w.at_), u :: r⟩
  else withinS d u .zero (takeT (u :: r)) fun d ts =>
   if formS w.text = 1 then ⟨.mk 10 w.at_ 0 w.text [], (expectS 3 ts).1, (expectS 3 ts).2⟩
   else
    let q := expr d ts
    if q.e ≠ none then ⟨.mk 10 w.at_ 0 w.text [q.n], q.e, q.ts⟩
    else if formS w.text = 2 then ⟨.mk 10 w.at_ 0 w.text [q.n], (expectS 3 q.ts).1, (expectS 3 q.ts).2⟩
    else
     let x := expectS 4 q.ts
     if x.1 ≠ none then ⟨.mk 10 w.at_ 0 w.text [q.n], x.1, x.2⟩
     else match numberS (headT x.2) with
      | none => ⟨.mk 10 w.at_ 0 w.text [q.n], wrongT x.2, x.2⟩
      | some k => ⟨.mk 10 w.at_ k w.text [q.n], (expectS 3 (takeT x.2)).1, (expectS 3 (takeT x.2)).2⟩ := rfl
end Go.TP
end
section
namespace Go.Proofs.YtpofhijgccocpaaDoor
open Go.AS Go.TP
noncomputable section
def encE : Option (Int × Int) → AV
 | none => nilE
 | some (k, a) => encErr k a
def fnLv : Lv → Nat
 | .expr => fPExpr
 | .term => fPTerm
 | .part => fPPart
 | .ranged => fPRanged
 | .atom => fPAtom
def offLv : Lv → Nat
 | .expr => 5
 | .term => 4
 | .part => 3
 | .ranged => 2
 | .atom => 1
abbrev PR (f : Nat) (d : Int) (ts : List Tk) (r : R) : Prop := FOk Tryd.prog gl0 f [pArg] (pHeap (ts.map encT) d) (pOut (r.ts.map encT) d (encP r.n) (encE r.e))
def PFOk (f : Nat) : Prop := ∀ lv d ts, 0 ≤ d → d ≤ 24 → okT ts → 5 * ts.length + offLv lv ≤ f → PR (fnLv lv) d ts (PF f lv d ts)
theorem encL_one (n : Nd) : encL [n] = [encP n] := by rw [encP_eq]; rfl
theorem encL_two (n m : Nd) : encL [n, m] = [encP n, encP m] := by rw [encP_eq, encP_eq]; rfl
theorem node1 (k a m : Int) (t : ByteArray) (n : Nd) : encP (.mk k a m t [n]) = nodeV k a m t [encP n] := by
 show nodeV k a m t (encL [n]) = _
 rw [encL_one]
theorem node2 (k a m : Int) (t : ByteArray) (n q : Nd) : encP (.mk k a m t [n, q]) = nodeV k a m t [encP n, encP q] := by
 show nodeV k a m t (encL [n, q]) = _
 rw [encL_two]
attribute [local irreducible] runF in
set_option maxRecDepth 100000 in
theorem gP_ok {X : WX} (hX : X.Sound) (hp : X.px = X0) {f : Nat} (hs : (Tryd.prog.funcs[f]?).isSome = true) (hb : (fn f).body = some (code f)) (hn : ((fn f).name == "runtime.NumGoroutine") = false) {os : Orc} {fz : Nat} {xs : List AV} {σ : Hp} {r : Back}
  (h : runF (X.ask askP) 14 f (fn f) (code f) os fz [] xs σ r) : FOk Tryd.prog gl0 f xs σ r := by
 have hP : X.px.P = Tryd.prog := by rw [hp]; rfl
 have hg : X.px.gl = gl0 := by rw [hp]; rfl
 have := fn_ok (X := X.ask askP) (d := 14) (hX.ask askP) (f := f) (fn := fn f) (code := code f) (by show X.px.P.funcs[f]? = _; rw [hP]; exact fnOk f hs) hb hn h
 show FOk Tryd.prog gl0 f xs σ r
 rw [← hg, ← hP]; exact this
attribute [local irreducible] runF in
set_option maxRecDepth 100000 in
theorem atomOk {X : WX} (hX : X.Sound) (hp : X.px = X0) {os : Orc} {ts ts' : List AV} {d : Int} {n e : AV} (h : gP X fPAtom os ts ts' d n e) : FOk Tryd.prog gl0 fPAtom [pArg] (pHeap ts d) (pOut ts' d n e) :=
 gP_ok hX hp (by kernel_rfl) (show (fn fPAtom).body = some (code fPAtom) by kernel_rfl) (by kernel_rfl) h
attribute [local irreducible] runF in
set_option maxRecDepth 100000 in
theorem rangedOk {X : WX} (hX : X.Sound) (hp : X.px = X0) {os : Orc} {ts ts' : List AV} {d : Int} {n e : AV} (h : gP X fPRanged os ts ts' d n e) : FOk Tryd.prog gl0 fPRanged [pArg] (pHeap ts d) (pOut ts' d n e) :=
 gP_ok hX hp (by kernel_rfl) (show (fn fPRanged).body = some (code fPRanged) by kernel_rfl) (by kernel_rfl) h
attribute [local irreducible] runF in
set_option maxRecDepth 100000 in
theorem rangedOk1 {X : WX} (hX : X.Sound) (hp : X.px = X0) {os : Orc} {ts ts' : List AV} {d : Int} {n e : AV} (h : gP1 X fPRanged os ts ts' d n e) : FOk Tryd.prog gl0 fPRanged [pArg] (pHeap ts d) (pOut ts' d n e) :=
 gP_ok hX hp (by kernel_rfl) (show (fn fPRanged).body = some (code fPRanged) by kernel_rfl) (by kernel_rfl) h
attribute [local irreducible] runF in
set_option maxRecDepth 100000 in
theorem partOk {X : WX} (hX : X.Sound) (hp : X.px = X0) {os : Orc} {ts ts' : List AV} {d : Int} {n e : AV} (h : gP X fPPart os ts ts' d n e) : FOk Tryd.prog gl0 fPPart [pArg] (pHeap ts d) (pOut ts' d n e) :=
 gP_ok hX hp (by kernel_rfl) (show (fn fPPart).body = some (code fPPart) by kernel_rfl) (by kernel_rfl) h
attribute [local irreducible] runF in
set_option maxRecDepth 100000 in
theorem exprOk {X : WX} (hX : X.Sound) (hp : X.px = X0) {os : Orc} {ts ts' : List AV} {d : Int} {n e : AV} (h : gP X fPExpr os ts ts' d n e) : FOk Tryd.prog gl0 fPExpr [pArg] (pHeap ts d) (pOut ts' d n e) :=
 gP_ok hX hp (by kernel_rfl) (show (fn fPExpr).body = some (code fPExpr) by kernel_rfl) (by kernel_rfl) h
attribute [local irreducible] runF in
set_option maxRecDepth 100000 in
theorem termOk {X : WX} (hX : X.Sound) (hp : X.px = X0) {os : Orc} {ts ts' : List AV} {d : Int} {n e : AV} (h : gP X fPTerm os ts ts' d n e) : FOk Tryd.prog gl0 fPTerm [pArg] (pHeap ts d) (pOut ts' d n e) :=
 gP_ok hX hp (by kernel_rfl) (show (fn fPTerm).body = some (code fPTerm) by kernel_rfl) (by kernel_rfl) h
theorem XE_ok {ts ts' : List AV} {d : Int} {n e : AV} (h : FOk Tryd.prog gl0 fPExpr [pArg] (pHeap ts d) (pOut ts' d n e)) : (XE ts ts' d n e).Sound := XB_ok.add (conOk (s := spP ts ts' d n e) fun _ _ => h)
theorem XA_ok {ts ts' : List AV} {d : Int} {n e : AV} (h : FOk Tryd.prog gl0 fPAtom [pArg] (pHeap ts d) (pOut ts' d n e)) : (XA ts ts' d n e).Sound := XB_ok.add (conOk (s := spP ts ts' d n e) fun _ _ => h)
theorem XAA_ok {ts ts' us us' : List AV} {d d2 : Int} {n e n2 e2 : AV} (h : FOk Tryd.prog gl0 fPAtom [pArg] (pHeap ts d) (pOut ts' d n e)) (h2 : FOk Tryd.prog gl0 fPAtom [pArg] (pHeap us d2) (pOut us' d2 n2 e2)) : (XAA ts ts' d n e us us' d2 n2 e2).Sound :=
 XB_ok.add (Sp.ok (P := Tryd.prog) (gl := gl0) (f := fPAtom) fun s hs _ _ => by
  rcases List.mem_cons.1 hs with rfl | hs
  · exact h
  · rcases List.mem_cons.1 hs with rfl | hs
    · exact h2
    · cases hs)
theorem XF_ok {x : ByteArray} {ts ts' : List AV} {d : Int} {n e : AV} (h : FOk Tryd.prog gl0 fPExpr [pArg] (pHeap ts d) (pOut ts' d n e)) {v : Int} (hv : formS x = v) : (XF x v ts ts' d n e).Sound := (XE_ok h).add (conOk (s := spForm x v) fun _ _ => hv ▸ form_ok x)
theorem XFN_ok {x : ByteArray} {ts ts' : List AV} {d : Int} {n e t : AV} {m : Int} {b : Bool} (h : FOk Tryd.prog gl0 fPExpr [pArg] (pHeap ts d) (pOut ts' d n e)) (hv : formS x = 3) (ht : F fNumber [t] (.tup [i0 m, b0 b])) : (XFN x ts ts' d n e t m b).Sound :=
 (XF_ok h hv).add (conOk (s := spNum t m b) fun _ _ => ht)
theorem XForm_ok {x : ByteArray} {v : Int} (hv : formS x = v) : (XB.add fForm (Sp.con [spForm x v])).Sound := XB_ok.add (conOk (s := spForm x v) fun _ _ => hv ▸ form_ok x)
theorem XPre_ok {x : ByteArray} {b : Bool} (hx : x.size ≤ 600) (hv : isPrefixS x = b) : (XB.add fIsPrefix (Sp.con [spPre x b])).Sound := XB_ok.add (conOk (s := spPre x b) fun _ _ => hv ▸ isPrefix_ok x (by omega))
theorem formS_cases (x : ByteArray) : formS x = 0 ∨ formS x = 1 ∨ formS x = 2 ∨ formS x = 3 := by
 unfold formS; split
 · simp
 · split
   · simp
   · split <;> simp
theorem beqF {a b : Int} (h : a ≠ b) : (a == b) = false := beq_eq_false_iff_ne.2 h
theorem bneT {a b : Int} (h : a ≠ b) : (a != b) = true := bne_iff_ne.2 h
theorem num_kind {t : Tk} {k : Int} (h : numberS t = some k) : t.kind = 1 := by
 unfold numberS at h
 split at h
 · rename_i h1; exact h1.1
 · cases h
theorem expect_yes {k a : Int} {x : ByteArray} {r : List Tk} (h : k ≠ 11) : expectS k (⟨k, a, x⟩ :: r) = (none, r) := by
 show (if k = k then (none, takeT (⟨k, a, x⟩ :: r)) else _) = _
 rw [if_pos rfl, takeT_cons h]
theorem expect_no {k kc ac : Int} {xc : ByteArray} {r : List Tk} (h : kc ≠ k) : expectS k (⟨kc, ac, xc⟩ :: r) = (some (15, ac), ⟨kc, ac, xc⟩ :: r) := by
 show (if kc = k then _ else (wrongT (⟨kc, ac, xc⟩ :: r), ⟨kc, ac, xc⟩ :: r)) = _
 rw [if_neg h]; rfl
attribute [local irreducible] runF in
set_option maxRecDepth 100000 in
theorem atom_step {f : Nat} (ih : PFOk f) {d : Int} {ts : List Tk} (h0 : 0 ≤ d) (h1 : d ≤ 24) (hk : okT ts) (hf : 5 * ts.length + 1 ≤ f + 1) : PR fPAtom d ts (PF (f + 1) .atom d ts) := by
 match ts, hk, hf with
 | [], hk, _ => exact hk.elim
 | ⟨k, a, x⟩ :: r, hk, hf =>
  rw [List.length_cons] at hf
  rw [PF_atom]
  by_cases h2 : k = 2
  · subst h2
    have hr := okT_cons hk (show (2 : Int) ≠ 11 by decide)
    rw [if_pos rfl, takeT_cons (show (2 : Int) ≠ 11 by decide)]
    unfold withinS
    by_cases hd : d = 24
    · subst hd; rw [if_pos rfl]
      exact atomOk XB_ok rfl (aDeep_ok a x (r.map encT))
    · rw [if_neg hd]
      dsimp only
      have hq := ih .expr (d + 1) r (by omega) (by omega) hr (by show 5 * r.length + 5 ≤ f; omega)
      have hi := PF_inv f .expr (d + 1) r hr
      generalize PF f .expr (d + 1) r = q at hq hi ⊢
      obtain ⟨n, e, us⟩ := q
      have hq : PR fPExpr (d + 1) r ⟨n, e, us⟩ := hq
      cases e with
      | some e =>
        obtain ⟨ek, ea⟩ := e
        simp only [ne_eq, reduceCtorEq, not_false_eq_true, if_true]
        exact atomOk (XE_ok hq) rfl (aOpenE_ok a x _ d n ek ea _ (beqF hd) h0 h1)
      | none =>
        simp only [ne_eq, not_true_eq_false, if_false]
        match us, hi.1, hq with
        | ⟨kc, ac, xc⟩ :: r', hc, hq =>
          by_cases h3 : kc = 3
          · subst h3
            rw [expect_yes (show (3 : Int) ≠ 11 by decide)]
            exact atomOk (XE_ok hq) rfl (aOpen_ok a x _ d n ac xc _ (beqF hd) h0 h1)
          · rw [expect_no h3]
            exact atomOk (XE_ok hq) rfl (aOpenX_ok a x _ d n kc ac xc _ (beqF hd) (bneT h3) h0 h1)
  · rw [if_neg h2]
    by_cases h3 : k = 1
    · subst h3
      have hr := okT_cons hk (show (1 : Int) ≠ 11 by decide)
      have hx := okT_size hk
      have hx : x.size ≤ 600 := hx
      rw [if_pos rfl, takeT_cons (show (1 : Int) ≠ 11 by decide)]
      match r, hr, hf with
      | ⟨k', a', x'⟩ :: r, hr, hf =>
        rw [List.length_cons] at hf
        by_cases h4 : k' = 2
        · subst h4
          have hr2 := okT_cons hr (show (2 : Int) ≠ 11 by decide)
          rw [if_pos (c := (headT (⟨2, a', x'⟩ :: r)).kind = 2) rfl, callS_eq]
          by_cases hv0 : formS x = 0
          · rw [if_pos hv0]
            exact atomOk (XForm_ok hv0) rfl (aCall0_ok a x a' x' _ d h0 h1)
          rw [if_neg hv0, takeT_cons (show (2 : Int) ≠ 11 by decide)]
          unfold withinS
          by_cases hd : d = 24
          · subst hd; rw [if_pos rfl]
            exact atomOk (XForm_ok rfl) rfl (aCallD_ok a x (formS x) a' x' _ (beqF hv0))
          rw [if_neg hd]
          dsimp only
          by_cases hv1 : formS x = 1
          · rw [if_pos hv1]
            match r, hr2 with
            | ⟨kc, ac, xc⟩ :: r', hc =>
              by_cases h5 : kc = 3
              · subst h5
                rw [expect_yes (show (3 : Int) ≠ 11 by decide)]
                exact atomOk (XForm_ok hv1) rfl (aCall1_ok a x a' x' ac xc _ d (beqF hd) h0 h1)
              · rw [expect_no h5]
                exact atomOk (XForm_ok hv1) rfl (aCall1X_ok a x a' x' kc ac xc _ d (beqF hd) (bneT h5) h0 h1)
          rw [if_neg hv1]
          have hq := ih .expr (d + 1) r (by omega) (by omega) hr2 (by show 5 * r.length + 5 ≤ f; omega)
          have hi := PF_inv f .expr (d + 1) r hr2
          generalize PF f .expr (d + 1) r = q at hq hi ⊢
          obtain ⟨n, e, us⟩ := q
          have hq : PR fPExpr (d + 1) r ⟨n, e, us⟩ := hq
          cases e with
          | some e =>
            obtain ⟨ek, ea⟩ := e
            simp only [ne_eq, reduceCtorEq, not_false_eq_true, if_true]
            unfold PR
            rw [node1]
            exact atomOk (XF_ok hq rfl) rfl (aCallE_ok a x (formS x) a' x' _ d n ek ea _ (beqF hv0) (beqF hd) (beqF hv1) h0 h1)
          | none =>
            simp only [ne_eq, not_true_eq_false, if_false]
            match us, hi.1, hq with
            | ⟨kc, ac, xc⟩ :: r', hc, hq =>
              by_cases hv2 : formS x = 2
              · rw [if_pos hv2]
                by_cases h5 : kc = 3
                · subst h5
                  rw [expect_yes (show (3 : Int) ≠ 11 by decide)]
                  unfold PR
                  rw [node1]
                  exact atomOk (XF_ok hq hv2) rfl (aCall2_ok a x a' x' _ d n ac xc _ (beqF hd) h0 h1)
                · rw [expect_no h5]
                  unfold PR
                  rw [node1]
                  exact atomOk (XF_ok hq hv2) rfl (aCall2X_ok a x a' x' _ d n kc ac xc _ (beqF hd) (bneT h5) h0 h1)
              rw [if_neg hv2]
              have hv3 : formS x = 3 := by rcases formS_cases x with h | h | h | h <;> first | exact absurd h hv0 | exact absurd h hv1 | exact absurd h hv2 | exact h
              by_cases h5 : kc = 4
              · subst h5
                have hr3 := okT_cons hc (show (4 : Int) ≠ 11 by decide)
                have ex : expectS 4 (⟨4, ac, xc⟩ :: r') = (none, r') := expect_yes (by decide)
                rw [ex]
                simp only [ne_eq, not_true_eq_false, if_false]
                match r', hr3 with
                | t :: r'', hn =>
                  cases hm : numberS t with
                  | none =>
                    rw [show numberS (headT (t :: r'')) = none from hm]
                    dsimp only
                    obtain ⟨m, hm⟩ := number_none t (Nat.le_trans (okT_size hn) (by omega)) hm
                    obtain ⟨kn, an, xn⟩ := t
                    unfold PR
                    rw [node1]
                    exact atomOk (XFN_ok hq hv3 hm) rfl (aCall3N_ok a x a' x' _ d n ac xc kn an xn m _ (beqF hd) h0 h1)
                  | some m =>
                    rw [show numberS (headT (t :: r'')) = some m from hm]
                    dsimp only
                    have hk1 := num_kind hm
                    have hm := number_some t m hm
                    obtain ⟨kn, an, xn⟩ := t
                    have hk1 : kn = 1 := hk1
                    subst hk1
                    have hr4 := okT_cons hn (show (1 : Int) ≠ 11 by decide)
                    rw [takeT_cons (show (1 : Int) ≠ 11 by decide)]
                    match r'', hr4 with
                    | ⟨kz, az, xz⟩ :: r5, _ =>
                      by_cases h6 : kz = 3
                      · subst h6
                        rw [expect_yes (show (3 : Int) ≠ 11 by decide)]
                        unfold PR
                        rw [node1]
                        exact atomOk (XFN_ok hq hv3 hm) rfl (aCall3_ok a x a' x' _ d n ac xc an xn m az xz _ (beqF hd) h0 h1)
                      · rw [expect_no h6]
                        unfold PR
                        rw [node1]
                        exact atomOk (XFN_ok hq hv3 hm) rfl (aCall3X_ok a x a' x' _ d n ac xc an xn m kz az xz _ (beqF hd) (bneT h6) h0 h1)
              · have ex : expectS 4 (⟨kc, ac, xc⟩ :: r') = (some (15, ac), ⟨kc, ac, xc⟩ :: r') := expect_no h5
                rw [ex]
                simp only [ne_eq, reduceCtorEq, not_false_eq_true, if_true]
                unfold PR
                rw [node1]
                exact atomOk (XF_ok hq hv3) rfl (aCall3C_ok a x a' x' _ d n kc ac xc _ (beqF hd) (bneT h5) h0 h1)
        · rw [if_neg (c := (headT (⟨k', a', x'⟩ :: r)).kind = 2) h4]
          by_cases hp : isPrefixS x = true
          · rw [if_pos hp]
            exact atomOk (XPre_ok hx hp) rfl (aName_ok a x k' a' x' _ d (beqF h4) h0 h1)
          · rw [if_neg hp]
            exact atomOk (XPre_ok hx (by simpa using hp)) rfl (aNameX_ok a x k' a' x' _ d (beqF h4) h0 h1)
    · rw [if_neg h3]
      exact atomOk XB_ok rfl (aBad_ok k a x _ d (beqF h2) (beqF h3) h0 h1)
end
end Go.Proofs.YtpofhijgccocpaaDoor
end
section
namespace Go.Proofs.YtpofhijgccocpaaDoor
open Go.AS Go.TP
noncomputable section
attribute [local irreducible] runF in
set_option maxRecDepth 100000 in
theorem upOk {X : WX} (hX : X.Sound) (hp : X.px = X0) {os : Orc} {a : Int} {x : ByteArray} {ts ts' : List AV} {d : Int} {n e : AV} (h : gUp X os a x ts ts' d n e) : FOk Tryd.prog gl0 fPUp [pArg, tokV 5 a x] (pHeap ts d) (pOut ts' d n e) :=
 gP_ok hX hp (by kernel_rfl) (show (fn fPUp).body = some (code fPUp) by kernel_rfl) (by kernel_rfl) h
attribute [local irreducible] runF in
set_option maxRecDepth 100000 in
theorem takeOk (a : Int) (x : ByteArray) (r : List AV) (d : Int) (h0 : 0 ≤ d) (h1 : d ≤ 24) : FOk Tryd.prog gl0 fPTake [pArg] (pHeap (tokV 5 a x :: r) d) ⟨tokV 5 a x, pHeap r d, [1048577]⟩ :=
 gP_ok XB_ok rfl (by kernel_rfl) (show (fn fPTake).body = some (code fPTake) by kernel_rfl) (by kernel_rfl) (kTake_ok a x r d h0 h1)
theorem XU_ok {a : Int} {x : ByteArray} {r ts' : List AV} {d : Int} {n e : AV} (h0 : 0 ≤ d) (h1 : d ≤ 24) (h : FOk Tryd.prog gl0 fPUp [pArg, tokV 5 a x] (pHeap r d) (pOut ts' d n e)) : (XU a x r ts' d n e).Sound :=
 (XB_ok.add (conOk (s := spTake a x r d) fun _ _ => takeOk a x r d h0 h1)).add (conOk (s := spUp a x r ts' d n e) fun _ _ => h)
attribute [local irreducible] runF in
set_option maxRecDepth 100000 in
theorem ranged_step {f : Nat} (ih : PFOk f) {d : Int} {ts : List Tk} (h0 : 0 ≤ d) (h1 : d ≤ 24) (hk : okT ts) (hf : 5 * ts.length + 2 ≤ f + 1) : PR fPRanged d ts (PF (f + 1) .ranged d ts) := by
 match ts, hk, hf with
 | [], hk, _ => exact hk.elim
 | ⟨k, a, x⟩ :: r, hk, hf =>
  rw [PF_ranged]
  by_cases h2 : k = 5
  · subst h2
    have hr := okT_cons hk (show (5 : Int) ≠ 11 by decide)
    rw [List.length_cons] at hf
    rw [if_pos rfl, takeT_cons (show (5 : Int) ≠ 11 by decide)]
    unfold withinS
    by_cases hd : d = 24
    · subst hd; rw [if_pos rfl]
      exact rangedOk (XU_ok h0 h1 (upOk XB_ok rfl (uD_ok a x (r.map encT)))) rfl (rUpE_ok a x (r.map encT) 24 (.mk 6 a 0 ByteArray.empty []) 16 a (r.map encT) h0 h1)
    · rw [if_neg hd]
      dsimp only
      have hq := ih .atom (d + 1) r (by omega) (by omega) hr (by show 5 * r.length + 1 ≤ f; omega)
      generalize PF f .atom (d + 1) r = q at hq ⊢
      obtain ⟨n, e, us⟩ := q
      have hq : PR fPAtom (d + 1) r ⟨n, e, us⟩ := hq
      cases e with
      | some e =>
        obtain ⟨ek, ea⟩ := e
        have hu := upOk (XA_ok hq) rfl (uE_ok a x _ d n ek ea _ (beqF hd) h0 h1)
        rw [← node1] at hu
        exact rangedOk (XU_ok h0 h1 hu) rfl (rUpE_ok a x _ d _ ek ea _ h0 h1)
      | none =>
        have hu := upOk (XA_ok hq) rfl (uN_ok a x _ d n _ (beqF hd) h0 h1)
        rw [← node1] at hu
        exact rangedOk (XU_ok h0 h1 hu) rfl (rUpN_ok a x _ d _ _ h0 h1)
  · rw [if_neg h2]
    dsimp only
    have hq := ih .atom d (⟨k, a, x⟩ :: r) h0 h1 hk (by show 5 * (List.length _) + 1 ≤ f; omega)
    have hi := PF_inv f .atom d (⟨k, a, x⟩ :: r) hk
    generalize PF f .atom d (⟨k, a, x⟩ :: r) = q at hq hi ⊢
    obtain ⟨n, e, us⟩ := q
    have hq : PR fPAtom d (⟨k, a, x⟩ :: r) ⟨n, e, us⟩ := hq
    cases e with
    | some e =>
      obtain ⟨ek, ea⟩ := e
      simp only [ne_eq, reduceCtorEq, not_false_eq_true, if_true]
      exact rangedOk (XA_ok hq) rfl (rAtE_ok k a x _ d n ek ea _ (beqF h2) h0 h1)
    | none =>
      simp only [ne_eq, not_true_eq_false, if_false]
      obtain ⟨hi1, hi2⟩ := hi
      match us, hi1, hi2, hq with
      | ⟨ku, au, xu⟩ :: r', hc, hl, hq =>
        have hl : r'.length + 1 ≤ (⟨k, a, x⟩ :: r : List Tk).length := hl
        by_cases h5 : ku = 5
        · subst h5
          have hr := okT_cons hc (show (5 : Int) ≠ 11 by decide)
          rw [if_pos (c := (headT (⟨5, au, xu⟩ :: r')).kind = 5) rfl, takeT_cons (show (5 : Int) ≠ 11 by decide)]
          unfold withinS
          by_cases hd : d = 24
          · subst hd; rw [if_pos rfl]
            unfold PR
            rw [node1]
            exact rangedOk (XA_ok hq) rfl (rBetD_ok k a x _ n au xu _ (beqF h2))
          · rw [if_neg hd]
            dsimp only
            match r', hr, hl with
            | ⟨k2, a2, x2⟩ :: r'', hr, hl =>
              unfold secondS
              by_cases h6 : false = false ∧ (headT (⟨k2, a2, x2⟩ :: r'')).kind ≠ 2 ∧ (headT (⟨k2, a2, x2⟩ :: r'')).kind ≠ 1
              · rw [if_pos h6]
                unfold PR
                rw [node1]
                exact rangedOk (XA_ok hq) rfl (rDown_ok k a x _ d n au xu k2 a2 x2 _ (beqF h2) (beqF hd) (beqF h6.2.1) (beqF h6.2.2) h0 h1)
              · rw [if_neg h6]
                have h7 : k2 = 2 ∨ k2 = 1 := by
                  by_cases e1 : k2 = 2
                  · exact .inl e1
                  · by_cases e2 : k2 = 1
                    · exact .inr e2
                    · exact absurd ⟨rfl, e1, e2⟩ h6
                dsimp only
                have hq2 := ih .atom (d + 1) (⟨k2, a2, x2⟩ :: r'') (by omega) (by omega) hr (by show 5 * (List.length _) + 1 ≤ f; omega)
                generalize PF f .atom (d + 1) (⟨k2, a2, x2⟩ :: r'') = q2 at hq2 ⊢
                obtain ⟨n2, e2, us2⟩ := q2
                have hq2 : PR fPAtom (d + 1) (⟨k2, a2, x2⟩ :: r'') ⟨n2, e2, us2⟩ := hq2
                unfold PR
                rw [node2]
                cases e2 with
                | some e =>
                  obtain ⟨ek, ea⟩ := e
                  rcases h7 with rfl | rfl
                  · exact rangedOk1 (XAA_ok hq hq2) rfl (rBet2E_ok k a x _ d n au xu a2 x2 _ n2 ek ea _ (beqF h2) (beqF hd) h0 h1)
                  · exact rangedOk1 (XAA_ok hq hq2) rfl (rBet1E_ok k a x _ d n au xu a2 x2 _ n2 ek ea _ (beqF h2) (beqF hd) h0 h1)
                | none =>
                  rcases h7 with rfl | rfl
                  · exact rangedOk1 (XAA_ok hq hq2) rfl (rBet2N_ok k a x _ d n au xu a2 x2 _ n2 _ (beqF h2) (beqF hd) h0 h1)
                  · exact rangedOk1 (XAA_ok hq hq2) rfl (rBet1N_ok k a x _ d n au xu a2 x2 _ n2 _ (beqF h2) (beqF hd) h0 h1)
        rw [if_neg (c := (headT (⟨ku, au, xu⟩ :: r')).kind = 5) h5]
        by_cases h6 : ku = 6
        · subst h6
          have hr := okT_cons hc (show (6 : Int) ≠ 11 by decide)
          rw [if_pos (c := (headT (⟨6, au, xu⟩ :: r')).kind = 6) rfl, takeT_cons (show (6 : Int) ≠ 11 by decide)]
          unfold secondS
          rw [if_neg (fun h : (true = false ∧ _) => Bool.noConfusion h.1)]
          dsimp only
          have hq2 := ih .atom d r' h0 h1 hr (by show 5 * r'.length + 1 ≤ f; omega)
          generalize PF f .atom d r' = q2 at hq2 ⊢
          obtain ⟨n2, e2, us2⟩ := q2
          have hq2 : PR fPAtom d r' ⟨n2, e2, us2⟩ := hq2
          unfold PR
          rw [node2]
          cases e2 with
          | some e =>
            obtain ⟨ek, ea⟩ := e
            exact rangedOk1 (XAA_ok hq hq2) rfl (rOnlyE_ok k a x _ d n au xu _ n2 ek ea _ (beqF h2) h0 h1)
          | none => exact rangedOk1 (XAA_ok hq hq2) rfl (rOnlyN_ok k a x _ d n au xu _ n2 _ (beqF h2) h0 h1)
        · rw [if_neg (c := (headT (⟨ku, au, xu⟩ :: r')).kind = 6) h6]
          exact rangedOk (XA_ok hq) rfl (rAt0_ok k a x _ d n ku au xu _ (beqF h2) (beqF h5) (beqF h6) h0 h1)
attribute [local irreducible] runF in
set_option maxRecDepth 100000 in
theorem part_step {f : Nat} (ih : PFOk f) {d : Int} {ts : List Tk} (h0 : 0 ≤ d) (h1 : d ≤ 24) (hk : okT ts) (hf : 5 * ts.length + 3 ≤ f + 1) : PR fPPart d ts (PF (f + 1) .part d ts) := by
 match ts, hk, hf with
 | [], hk, _ => exact hk.elim
 | ⟨k, a, x⟩ :: r, hk, hf =>
  rw [PF_part]
  by_cases h2 : k = 10
  · subst h2
    have hr := okT_cons hk (show (10 : Int) ≠ 11 by decide)
    rw [List.length_cons] at hf
    rw [if_neg (fun h => h rfl), takeT_cons (show (10 : Int) ≠ 11 by decide)]
    unfold withinS
    by_cases hd : d = 24
    · subst hd; rw [if_pos rfl]
      exact partOk XB_ok rfl (tNotD_ok a x (r.map encT))
    · rw [if_neg hd]
      dsimp only
      have hq := ih .part (d + 1) r (by omega) (by omega) hr (by show 5 * r.length + 3 ≤ f; omega)
      generalize PF f .part (d + 1) r = q at hq ⊢
      obtain ⟨n, e, us⟩ := q
      have hq : FOk Tryd.prog gl0 fPPart [pArg] (pHeap (r.map encT) (d + 1)) (pOut (us.map encT) (d + 1) (encP n) (encE e)) := hq
      unfold PR
      rw [node1]
      cases e with
      | some e =>
        obtain ⟨ek, ea⟩ := e
        exact partOk (XB_ok.add (conOk (s := spP _ _ _ _ _) fun _ _ => hq)) rfl (tNotE_ok a x _ d n ek ea _ (beqF hd) h0 h1)
      | none => exact partOk (XB_ok.add (conOk (s := spP _ _ _ _ _) fun _ _ => hq)) rfl (tNotN_ok a x _ d n _ (beqF hd) h0 h1)
  · rw [if_pos h2]
    have hq := ih .ranged d (⟨k, a, x⟩ :: r) h0 h1 hk (by show 5 * (List.length _) + 2 ≤ f; omega)
    generalize PF f .ranged d (⟨k, a, x⟩ :: r) = q at hq ⊢
    obtain ⟨n, e, us⟩ := q
    have hq : FOk Tryd.prog gl0 fPRanged [pArg] (pHeap (List.map encT (⟨k, a, x⟩ :: r)) d) (pOut (us.map encT) d (encP n) (encE e)) := hq
    cases e with
    | some e =>
      obtain ⟨ek, ea⟩ := e
      exact partOk (XB_ok.add (conOk (s := spP _ _ _ _ _) fun _ _ => hq)) rfl (tRanE_ok k a x _ d n ek ea _ (bneT h2) h0 h1)
    | none => exact partOk (XB_ok.add (conOk (s := spP _ _ _ _ _) fun _ _ => hq)) rfl (tRanN_ok k a x _ d n _ (bneT h2) h0 h1)
end
end Go.Proofs.YtpofhijgccocpaaDoor
end
section
namespace Go.Proofs.YtpofhijgccocpaaDoor
open Go.AS Go.TP
noncomputable section
abbrev BCh (xs : List AV) (σ : Hp) (r : Ex × Back) : Prop := BlkOk Tryd.prog gl0 (fn fPChain).ntmps (loopAt (code fPChain) 0) [0, 1, 2, 6, 8, 9] (fun _ => [6, 8, 9]) xs σ fun _ q => q = r
attribute [local irreducible] runL in
set_option maxRecDepth 100000 in
theorem chRound {X : WX} (hX : X.Sound) (hp : X.px = X0) {os : Orc} {c : Ch} {P : Prop} {ts us : List AV} {d : Int} {n e n' e' : AV} {r' r : Ex × Back} (ih : P → BCh (cArgs c e') (cHeap c us d n') r') (h : rCh X os c P ts d n e us n' e' r' r) : BCh (cArgs c e) (cHeap c ts d n) r := by
 have hP : X.px.P = Tryd.prog := by rw [hp]; rfl
 have hg : X.px.gl = gl0 := by rw [hp]; rfl
 have := lp_round1W (X := X.ask (fPChain :: askP)) (hX.ask _) (f := fPChain) (fn := fn fPChain) (code := code fPChain) (by show X.px.P.funcs[fPChain]? = _; rw [hP]; exact fnOk fPChain (by kernel_rfl)) (show (fn fPChain).body = some (code fPChain) by kernel_rfl)
  (i := 0) (ins := [0, 1, 2, 6, 8, 9]) (gh := []) (outs := fun _ => [6, 8, 9]) (show ([0, 1, 2, 6, 8, 9] : List Nat).Nodup by decide) (P := P) (xs' := cArgs c e') (σ' := cHeap c us d n') (r' := r') (by
   show P → BlkOk X.px.P X.px.gl _ _ _ _ _ _ _
   rw [hP, hg]; exact ih) h
 show BlkOk Tryd.prog gl0 _ _ _ _ _ _ _
 rw [← hP, ← hg]; exact this
theorem XC_ok {c : Ch} {ts ts' : List AV} {d : Int} {n e : AV} (h : FOk Tryd.prog gl0 c.f [pArg] (pHeap ts d) (pOut ts' d n e)) : (XC c ts ts' d n e).Sound := XB_ok.add (conOk (s := spP ts ts' d n e) fun _ _ => h)
theorem chainS_err {part : List Tk → R} {km : Int → Int} {m : Nat} {r : R} (h : r.e ≠ none) : chainS part km m r = r := by
 cases m with
 | zero => rw [chainS]
 | succ m => rw [chainS, if_neg (fun q => h q.1)]
theorem chainS_stop {part : List Tk → R} {km : Int → Int} {m : Nat} {r : R} (h : km (headT r.ts).kind = 0) : chainS part km m r = r := by
 cases m with
 | zero => rw [chainS]
 | succ m => rw [chainS, if_neg (fun q => q.2 h)]
theorem lookE (k : Int) : lookI k [Value.int IntKind.i64 (7 : Int), Value.int IntKind.i64 (8 : Int)] [AV.lit (Value.int IntKind.i64 (2 : Int)), AV.lit (Value.int IntKind.i64 (3 : Int))] = kmE k := by
 unfold kmE
 simp only [lookI, numA]
theorem lookT (k : Int) : lookI k [Value.int IntKind.i64 (9 : Int)] [AV.lit (Value.int IntKind.i64 (4 : Int))] = kmT k := by
 unfold kmT
 simp only [lookI, numA]
theorem kmE_ne {k : Int} (h : kmE k ≠ 0) : k = 7 ∨ k = 8 := by
 unfold kmE at h
 split at h
 · exact .inl (by assumption)
 · split at h
   · exact .inr (by assumption)
   · exact absurd rfl h
theorem kmT_ne {k : Int} (h : kmT k ≠ 0) : k = 9 := by
 unfold kmT at h
 split at h
 · assumption
 · exact absurd rfl h
attribute [local irreducible] runL runF in
set_option maxRecDepth 100000 in
theorem chainE {f : Nat} (ih : PFOk f) {d : Int} (h0 : 0 ≤ d) (h1 : d ≤ 24) : ∀ (m : Nat) (r : R), okT r.ts → r.ts.length ≤ m → 5 * r.ts.length ≤ f →
  BCh (cArgs chE (encE r.e)) (cHeap chE (r.ts.map encT) d (encP r.n)) (cOut chE ((chainS (PF f .term d) kmE m r).ts.map encT) d (encP (chainS (PF f .term d) kmE m r).n) (encE (chainS (PF f .term d) kmE m r).e)) := by
 intro m
 induction m with
 | zero =>
  intro r hk hl _
  exact absurd (List.eq_nil_of_length_eq_zero (by omega)) (okT_ne hk)
 | succ m ihm =>
  intro r hk hl hf
  obtain ⟨n, e, us⟩ := r
  cases e with
  | some e =>
   obtain ⟨ek, ea⟩ := e
   rw [chainS_err (fun h => by cases h)]
   exact chRound (P := False) XB_ok rfl (fun h => h.elim) (cEe_ok (us.map encT) d n ek ea h0 h1)
  | none =>
   match us, hk, hl, hf with
   | ⟨k, a, x⟩ :: r', hk, hl, hf =>
    have hl : r'.length + 1 ≤ m + 1 := hl
    have hf : 5 * (r'.length + 1) ≤ f := hf
    by_cases hkm : kmE k = 0
    · rw [chainS_stop (r := ⟨n, none, ⟨k, a, x⟩ :: r'⟩) hkm]
      exact chRound (P := False) XB_ok rfl (fun h => h.elim) (cXe_ok k a x (r'.map encT) d n (by rw [lookE, hkm]; rfl) h0 h1)
    · have hk7 := kmE_ne hkm
      have hne : k ≠ 11 := by rcases hk7 with rfl | rfl <;> decide
      have hr := okT_cons hk hne
      have e1 : chainS (PF f .term d) kmE (m + 1) ⟨n, none, ⟨k, a, x⟩ :: r'⟩ = chainS (PF f .term d) kmE m ⟨.mk (kmE k) a 0 ByteArray.empty [n, (PF f .term d r').n], (PF f .term d r').e, (PF f .term d r').ts⟩ := by
        rw [chainS, if_pos ⟨rfl, hkm⟩]
        show chainS _ _ m ⟨.mk (kmE k) a 0 ByteArray.empty [n, (PF f .term d (takeT (⟨k, a, x⟩ :: r'))).n], (PF f .term d (takeT (⟨k, a, x⟩ :: r'))).e, (PF f .term d (takeT (⟨k, a, x⟩ :: r'))).ts⟩ = _
        rw [takeT_cons hne]
      rw [e1]
      have hq := ih .term d r' h0 h1 hr (by show 5 * r'.length + 4 ≤ f; omega)
      have hi := PF_inv f .term d r' hr
      generalize PF f .term d r' = q at hq hi ⊢
      obtain ⟨qn, qe, qs⟩ := q
      have hq : FOk Tryd.prog gl0 (chE).f [pArg] (pHeap (r'.map encT) d) (pOut (qs.map encT) d (encP qn) (encE qe)) := hq
      have hi2 : qs.length ≤ r'.length := hi.2
      have hB := ihm ⟨.mk (kmE k) a 0 ByteArray.empty [n, qn], qe, qs⟩ hi.1 (show qs.length ≤ m by omega) (show 5 * qs.length ≤ f by omega)
      dsimp only at hB ⊢
      rw [node2] at hB
      have herr : qe ≠ none → (chainS (PF f .term d) kmE m ⟨.mk (kmE k) a 0 ByteArray.empty [n, qn], qe, qs⟩).e = qe := fun h => by rw [chainS_err h]
      generalize chainS (PF f .term d) kmE m ⟨.mk (kmE k) a 0 ByteArray.empty [n, qn], qe, qs⟩ = z at hB herr ⊢
      obtain ⟨zn, ze, zs⟩ := z
      have herr : qe ≠ none → ze = qe := herr
      have hB : BCh (cArgs chE (encE qe)) (cHeap chE (qs.map encT) d (nodeV (kmE k) a 0 ByteArray.empty [encP n, encP qn])) (cOut chE (zs.map encT) d (encP zn) (encE ze)) := hB
      rcases hk7 with rfl | rfl
      · cases qe with
        | some e =>
          obtain ⟨ek, ea⟩ := e
          obtain rfl := herr (fun h => by cases h)
          exact chRound (P := True) (XC_ok hq) rfl (fun _ => hB) (cR7E_ok a x (r'.map encT) d n qn (qs.map encT) (zs.map encT) zn ek ea ek ea h0 h1)
        | none =>
          cases ze with
          | some e =>
            obtain ⟨ek, ea⟩ := e
            exact chRound (P := True) (XC_ok hq) rfl (fun _ => hB) (cR7F_ok a x (r'.map encT) d n qn (qs.map encT) (zs.map encT) zn ek ea h0 h1)
          | none => exact chRound (P := True) (XC_ok hq) rfl (fun _ => hB) (cR7N_ok a x (r'.map encT) d n qn (qs.map encT) (zs.map encT) zn h0 h1)
      · cases qe with
        | some e =>
          obtain ⟨ek, ea⟩ := e
          obtain rfl := herr (fun h => by cases h)
          exact chRound (P := True) (XC_ok hq) rfl (fun _ => hB) (cR8E_ok a x (r'.map encT) d n qn (qs.map encT) (zs.map encT) zn ek ea ek ea h0 h1)
        | none =>
          cases ze with
          | some e =>
            obtain ⟨ek, ea⟩ := e
            exact chRound (P := True) (XC_ok hq) rfl (fun _ => hB) (cR8F_ok a x (r'.map encT) d n qn (qs.map encT) (zs.map encT) zn ek ea h0 h1)
          | none => exact chRound (P := True) (XC_ok hq) rfl (fun _ => hB) (cR8N_ok a x (r'.map encT) d n qn (qs.map encT) (zs.map encT) zn h0 h1)
attribute [local irreducible] runL runF in
set_option maxRecDepth 100000 in
theorem chainT {f : Nat} (ih : PFOk f) {d : Int} (h0 : 0 ≤ d) (h1 : d ≤ 24) : ∀ (m : Nat) (r : R), okT r.ts → r.ts.length ≤ m → 5 * r.ts.length ≤ f →
  BCh (cArgs chT (encE r.e)) (cHeap chT (r.ts.map encT) d (encP r.n)) (cOut chT ((chainS (PF f .part d) kmT m r).ts.map encT) d (encP (chainS (PF f .part d) kmT m r).n) (encE (chainS (PF f .part d) kmT m r).e)) := by
 intro m
 induction m with
 | zero =>
  intro r hk hl _
  exact absurd (List.eq_nil_of_length_eq_zero (by omega)) (okT_ne hk)
 | succ m ihm =>
  intro r hk hl hf
  obtain ⟨n, e, us⟩ := r
  cases e with
  | some e =>
   obtain ⟨ek, ea⟩ := e
   rw [chainS_err (fun h => by cases h)]
   exact chRound (P := False) XB_ok rfl (fun h => h.elim) (cEt_ok (us.map encT) d n ek ea h0 h1)
  | none =>
   match us, hk, hl, hf with
   | ⟨k, a, x⟩ :: r', hk, hl, hf =>
    have hl : r'.length + 1 ≤ m + 1 := hl
    have hf : 5 * (r'.length + 1) ≤ f := hf
    by_cases hkm : kmT k = 0
    · rw [chainS_stop (r := ⟨n, none, ⟨k, a, x⟩ :: r'⟩) hkm]
      exact chRound (P := False) XB_ok rfl (fun h => h.elim) (cXt_ok k a x (r'.map encT) d n (by rw [lookT, hkm]; rfl) h0 h1)
    · have hk7 := kmT_ne hkm
      have hne : k ≠ 11 := by rw [hk7]; decide
      have hr := okT_cons hk hne
      have e1 : chainS (PF f .part d) kmT (m + 1) ⟨n, none, ⟨k, a, x⟩ :: r'⟩ = chainS (PF f .part d) kmT m ⟨.mk (kmT k) a 0 ByteArray.empty [n, (PF f .part d r').n], (PF f .part d r').e, (PF f .part d r').ts⟩ := by
        rw [chainS, if_pos ⟨rfl, hkm⟩]
        show chainS _ _ m ⟨.mk (kmT k) a 0 ByteArray.empty [n, (PF f .part d (takeT (⟨k, a, x⟩ :: r'))).n], (PF f .part d (takeT (⟨k, a, x⟩ :: r'))).e, (PF f .part d (takeT (⟨k, a, x⟩ :: r'))).ts⟩ = _
        rw [takeT_cons hne]
      rw [e1]
      have hq := ih .part d r' h0 h1 hr (by show 5 * r'.length + 3 ≤ f; omega)
      have hi := PF_inv f .part d r' hr
      generalize PF f .part d r' = q at hq hi ⊢
      obtain ⟨qn, qe, qs⟩ := q
      have hq : FOk Tryd.prog gl0 (chT).f [pArg] (pHeap (r'.map encT) d) (pOut (qs.map encT) d (encP qn) (encE qe)) := hq
      have hi2 : qs.length ≤ r'.length := hi.2
      have hB := ihm ⟨.mk (kmT k) a 0 ByteArray.empty [n, qn], qe, qs⟩ hi.1 (show qs.length ≤ m by omega) (show 5 * qs.length ≤ f by omega)
      dsimp only at hB ⊢
      rw [node2] at hB
      have herr : qe ≠ none → (chainS (PF f .part d) kmT m ⟨.mk (kmT k) a 0 ByteArray.empty [n, qn], qe, qs⟩).e = qe := fun h => by rw [chainS_err h]
      generalize chainS (PF f .part d) kmT m ⟨.mk (kmT k) a 0 ByteArray.empty [n, qn], qe, qs⟩ = z at hB herr ⊢
      obtain ⟨zn, ze, zs⟩ := z
      have herr : qe ≠ none → ze = qe := herr
      have hB : BCh (cArgs chT (encE qe)) (cHeap chT (qs.map encT) d (nodeV (kmT k) a 0 ByteArray.empty [encP n, encP qn])) (cOut chT (zs.map encT) d (encP zn) (encE ze)) := hB
      subst hk7
      cases qe with
      | some e =>
        obtain ⟨ek, ea⟩ := e
        obtain rfl := herr (fun h => by cases h)
        exact chRound (P := True) (XC_ok hq) rfl (fun _ => hB) (cR9E_ok a x (r'.map encT) d n qn (qs.map encT) (zs.map encT) zn ek ea ek ea h0 h1)
      | none =>
        cases ze with
        | some e =>
          obtain ⟨ek, ea⟩ := e
          exact chRound (P := True) (XC_ok hq) rfl (fun _ => hB) (cR9F_ok a x (r'.map encT) d n qn (qs.map encT) (zs.map encT) zn ek ea h0 h1)
        | none => exact chRound (P := True) (XC_ok hq) rfl (fun _ => hB) (cR9N_ok a x (r'.map encT) d n qn (qs.map encT) (zs.map encT) zn h0 h1)
set_option maxRecDepth 100000 in
theorem addexpr {ts us : List AV} {d : Int} {n e : AV} {r : Ex × Back} (h : FOk Tryd.prog gl0 (chE).f [pArg] (pHeap ts d) (pOut us d n e)) (hB : BCh (cArgs chE e) (cHeap chE us d n) r) : ((XC chE ts us d n e).addLp fPChain 0 (lpCh chE True us d n e r)).Sound :=
 (XC_ok h).addLp (fnOk fPChain (by kernel_rfl)) (show (fn fPChain).body = some (code fPChain) by kernel_rfl) (by kernel_rfl)
  (Spl.okW (L := lpCh chE True us d n e r) (l := [⟨Unit, fun _ => True, fun _ => cArgs chE e, fun _ => cHeap chE us d n, fun _ => r⟩]) rfl (show ([0, 1, 2, 6, 8, 9] : List Nat).Nodup by decide) fun s hs i _ => by obtain rfl := List.mem_singleton.1 hs; exact hB)
attribute [local irreducible] runL runF in
set_option maxRecDepth 100000 in
theorem expr_step {f : Nat} (ih : PFOk f) {d : Int} {ts : List Tk} (h0 : 0 ≤ d) (h1 : d ≤ 24) (hk : okT ts) (hf : 5 * ts.length + 5 ≤ f + 1) : PR fPExpr d ts (PF (f + 1) .expr d ts) := by
 rw [PF]
 have hq := ih .term d ts h0 h1 hk (by show 5 * ts.length + 4 ≤ f; omega)
 have hi := PF_inv f .term d ts hk
 generalize PF f .term d ts = q at hq hi ⊢
 obtain ⟨qn, qe, qs⟩ := q
 have hq : FOk Tryd.prog gl0 (chE).f [pArg] (pHeap (ts.map encT) d) (pOut (qs.map encT) d (encP qn) (encE qe)) := hq
 have hi2 : qs.length ≤ ts.length := hi.2
 have hB := chainE ih h0 h1 f ⟨qn, qe, qs⟩ hi.1 (show qs.length ≤ f by omega) (show 5 * qs.length ≤ f by omega)
 have herr : qe ≠ none → (chainS (PF f .term d) kmE f ⟨qn, qe, qs⟩).e = qe := fun h => by rw [chainS_err h]
 generalize chainS (PF f .term d) kmE f ⟨qn, qe, qs⟩ = z at hB herr ⊢
 obtain ⟨zn, ze, zs⟩ := z
 have herr : qe ≠ none → ze = qe := herr
 have hB : BCh (cArgs chE (encE qe)) (cHeap chE (qs.map encT) d (encP qn)) (cOut chE (zs.map encT) d (encP zn) (encE ze)) := hB
 cases qe with
 | some e =>
  obtain ⟨ek, ea⟩ := e
  obtain rfl := herr (fun h => by cases h)
  exact exprOk (addexpr hq hB) rfl (gExE_ok (ts.map encT) (qs.map encT) d qn (zs.map encT) zn ek ea ek ea h0 h1)
 | none =>
  cases ze with
  | some e =>
   obtain ⟨ek, ea⟩ := e
   exact exprOk (addexpr hq hB) rfl (gExF_ok (ts.map encT) (qs.map encT) d qn (zs.map encT) zn ek ea h0 h1)
  | none => exact exprOk (addexpr hq hB) rfl (gExN_ok (ts.map encT) (qs.map encT) d qn (zs.map encT) zn h0 h1)
set_option maxRecDepth 100000 in
theorem addterm {ts us : List AV} {d : Int} {n e : AV} {r : Ex × Back} (h : FOk Tryd.prog gl0 (chT).f [pArg] (pHeap ts d) (pOut us d n e)) (hB : BCh (cArgs chT e) (cHeap chT us d n) r) : ((XC chT ts us d n e).addLp fPChain 0 (lpCh chT True us d n e r)).Sound :=
 (XC_ok h).addLp (fnOk fPChain (by kernel_rfl)) (show (fn fPChain).body = some (code fPChain) by kernel_rfl) (by kernel_rfl)
  (Spl.okW (L := lpCh chT True us d n e r) (l := [⟨Unit, fun _ => True, fun _ => cArgs chT e, fun _ => cHeap chT us d n, fun _ => r⟩]) rfl (show ([0, 1, 2, 6, 8, 9] : List Nat).Nodup by decide) fun s hs i _ => by obtain rfl := List.mem_singleton.1 hs; exact hB)
attribute [local irreducible] runL runF in
set_option maxRecDepth 100000 in
theorem term_step {f : Nat} (ih : PFOk f) {d : Int} {ts : List Tk} (h0 : 0 ≤ d) (h1 : d ≤ 24) (hk : okT ts) (hf : 5 * ts.length + 4 ≤ f + 1) : PR fPTerm d ts (PF (f + 1) .term d ts) := by
 rw [PF]
 have hq := ih .part d ts h0 h1 hk (by show 5 * ts.length + 3 ≤ f; omega)
 have hi := PF_inv f .part d ts hk
 generalize PF f .part d ts = q at hq hi ⊢
 obtain ⟨qn, qe, qs⟩ := q
 have hq : FOk Tryd.prog gl0 (chT).f [pArg] (pHeap (ts.map encT) d) (pOut (qs.map encT) d (encP qn) (encE qe)) := hq
 have hi2 : qs.length ≤ ts.length := hi.2
 have hB := chainT ih h0 h1 f ⟨qn, qe, qs⟩ hi.1 (show qs.length ≤ f by omega) (show 5 * qs.length ≤ f by omega)
 have herr : qe ≠ none → (chainS (PF f .part d) kmT f ⟨qn, qe, qs⟩).e = qe := fun h => by rw [chainS_err h]
 generalize chainS (PF f .part d) kmT f ⟨qn, qe, qs⟩ = z at hB herr ⊢
 obtain ⟨zn, ze, zs⟩ := z
 have herr : qe ≠ none → ze = qe := herr
 have hB : BCh (cArgs chT (encE qe)) (cHeap chT (qs.map encT) d (encP qn)) (cOut chT (zs.map encT) d (encP zn) (encE ze)) := hB
 cases qe with
 | some e =>
  obtain ⟨ek, ea⟩ := e
  obtain rfl := herr (fun h => by cases h)
  exact termOk (addterm hq hB) rfl (gTeE_ok (ts.map encT) (qs.map encT) d qn (zs.map encT) zn ek ea ek ea h0 h1)
 | none =>
  cases ze with
  | some e =>
   obtain ⟨ek, ea⟩ := e
   exact termOk (addterm hq hB) rfl (gTeF_ok (ts.map encT) (qs.map encT) d qn (zs.map encT) zn ek ea h0 h1)
  | none => exact termOk (addterm hq hB) rfl (gTeN_ok (ts.map encT) (qs.map encT) d qn (zs.map encT) zn h0 h1)
theorem PF_ok : ∀ f, PFOk f
 | 0 => fun lv d ts _ _ hk hf => by
  have : 0 < ts.length := List.length_pos_iff.2 (okT_ne hk)
  omega
 | f + 1 => fun lv d ts h0 h1 hk hf => by
  have ih := PF_ok f
  cases lv with
  | expr => exact expr_step ih h0 h1 hk hf
  | term => exact term_step ih h0 h1 hk hf
  | part => exact part_step ih h0 h1 hk hf
  | ranged => exact ranged_step ih h0 h1 hk hf
  | atom => exact atom_step ih h0 h1 hk hf
end
end Go.Proofs.YtpofhijgccocpaaDoor
end
section
namespace Go.Proofs.YtpofhijgccocpaaDoor
open Go.AS Go.TP
noncomputable section
inductive ParR where
 | long
 | bad (k a : Int)
 | ok (n : Nd)
def parOf (r : R) : ParR := match r.e with
 | some (k, a) => .bad k a
 | none => if (headT r.ts).kind = 11 then .ok r.n else .bad 15 (headT r.ts).at_
def parL : LexR → ParR
 | .long => .long
 | .bad i => .bad 15 i
 | .ok ts => parOf (PF (5 * ts.length + 5) .expr 0 ts)
def parseS (s : ByteArray) : ParR := parL (lexS s)
def encPar : ParR → AV
 | .long => .tup [encP Nd.zero, .iface tErrno (i0 5)]
 | .bad k a => .tup [encP Nd.zero, encErr k a]
 | .ok n => .tup [encP n, nilE]
def spLex (s : ByteArray) (x : AV) : Sp := .pure Unit (fun _ => True) (fun _ => [s0 s]) (fun _ => x)
def gPar (X : WX) (os : Orc) (s : ByteArray) (x : AV) : Prop := runF (X.ask [fParse, fPExpect, fPNext, fPTake]) 12 fParse (fn fParse) (code fParse) os 0 [] [s0 s] .nil ⟨x, .nil, []⟩
def XL (s : ByteArray) (x : AV) : WX := XT.add fLex (Sp.con [spLex s x])
def XLP (s : ByteArray) (ts ts' : List AV) (n e : AV) : WX := (XL s (.tup [.lst false 3 ts, .lit .nilIface])).add fPExpr (Sp.con [spP ts ts' 0 n e])
def gParL (os : Orc) (s : ByteArray) : Prop := gPar (XL s (.tup [.lst false 3 [], .iface tErrno (i0 5)])) os s (.tup [encP Nd.zero, .iface tErrno (i0 5)])
def gParB (os : Orc) (s : ByteArray) (i : Int) : Prop := gPar (XL s (.tup [.lst false 3 [], encErr 15 i])) os s (.tup [encP Nd.zero, encErr 15 i])
def gParE (os : Orc) (s : ByteArray) (ts ts' : List AV) (n : Nd) (k a : Int) : Prop := gPar (XLP s ts ts' (encP n) (encErr k a)) os s (.tup [encP Nd.zero, encErr k a])
def gParO (os : Orc) (s : ByteArray) (ts : List AV) (a : Int) (x : ByteArray) (r : List AV) (n : Nd) : Prop := gPar (XLP s ts (tokV 11 a x :: r) (encP n) nilE) os s (.tup [encP n, nilE])
def gParX (os : Orc) (s : ByteArray) (ts : List AV) (k a : Int) (x : ByteArray) (r : List AV) (n : Nd) : Prop := gPar (XLP s ts (tokV k a x :: r) (encP n) nilE) os s (.tup [encP Nd.zero, encErr 15 a])
end
end Go.Proofs.YtpofhijgccocpaaDoor
end
section
namespace Go.Proofs.YtpofhijgccocpaaDoor
open Go Go.AS Go.TP
noncomputable abbrev qVQ10 := [i0 (0 : Int), i0 (0 : Int), i0 (0 : Int), s0 (Nd.text (Nd.mk (0 : Int) (0 : Int) (0 : Int) ByteArray.empty [])), AV.lst false 5 (encL (Nd.kids (Nd.mk (0 : Int) (0 : Int) (0 : Int) ByteArray.empty [])))]
theorem gParL_vc (s : ByteArray) : gParL (Orc.t Orc.z) s = (U1 [s0 s] [] (Yt (Wk (AV.tup [AV.agg [i0 (0 : Int), i0 (0 : Int), i0 (0 : Int), s0 ⟨⟨[]⟩⟩, AV.lit (Value.slice none 0 0)], AV.iface 59 (i0 (5 : Int))]) (AV.tup [AV.agg (qVQ10), AV.iface 59 (i0 (5 : Int))]) ∧ SameH (hpL []) (hpL [])))) := by kernel_rfl
theorem gParB_vc (s : ByteArray) (i : Int) : gParB (Orc.t Orc.z) s i = (let z1 := AV.iface 76 (AV.ref (AV.agg [i0 i, AV.iface 59 (i0 (15 : Int))])); U1 [s0 s] [] (Yt (Wk (AV.tup [AV.agg [i0 (0 : Int), i0 (0 : Int), i0 (0 : Int), s0 ⟨⟨[]⟩⟩, AV.lit (Value.slice none 0 0)], z1]) (AV.tup [AV.agg (qVQ10), z1]) ∧ SameH (hpL []) (hpL [])))) := by kernel_rfl
theorem gParE_vc (s : ByteArray) (ts ts' : List AV) (n : Nd) (k a : Int) : gParE (Orc.f (Orc.f (Orc.t Orc.z))) s ts ts' n k a = (let z1 := [eR 1048577 [0, 0] 2 [AV.agg [AV.lst false 3 ts, i0 (0 : Int)]]]; let z2 := AV.iface 76 (AV.ref (AV.agg [i0 a, AV.iface 59 (i0 k)])); U1 [s0 s] [] (Nf (U1 [AV.ptr 1048577 [0, 0] 0 0] z1 (Nf (Yt (Wk (AV.tup [AV.agg [i0 (0 : Int), i0 (0 : Int), i0 (0 : Int), s0 ⟨⟨[]⟩⟩, AV.lit (Value.slice none 0 0)], z2]) (AV.tup [AV.agg (qVQ10), z2]) ∧ SameH (hpL []) (hpL []))))))) := by kernel_rfl
def ogParO : Orc := Orc.f (Orc.t (Orc.f (Orc.f (Orc.f Orc.z))))
theorem gParO_vc (s : ByteArray) (ts : List AV) (a : Int) (x : ByteArray) (r : List AV) (n : Nd) : gParO ogParO s ts a x r n = (let z1 := [eR 1048577 [0, 0] 2 [AV.agg [AV.lst false 3 ts, i0 (0 : Int)]]]; let z2 := (AV.tup [encP n, AV.lit Value.nilIface]); U1 [s0 s] [] (Nf (U1 [AV.ptr 1048577 [0, 0] 0 0] z1 (Yt (Nf (Nf (Nf (Wk z2 z2 ∧ SameH (hpL []) (hpL []))))))))) := by kernel_rfl
def ogParX : Orc := Orc.f (Orc.t (Orc.t (Orc.t Orc.z)))
theorem gParX_vc (s : ByteArray) (ts : List AV) (k a : Int) (x : ByteArray) (r : List AV) (n : Nd) : gParX ogParX s ts k a x r n = (let z1 := AV.iface 76 (AV.ref (AV.agg [i0 a, AV.iface 59 (i0 (15 : Int))])); let z2 := [eR 1048577 [0, 0] 2 [AV.agg [AV.lst false 3 ts, i0 (0 : Int)]]]; U1 [s0 s] [] (Nf (U1 [AV.ptr 1048577 [0, 0] 0 0] z2 (Yt ((k != (11 : Int)) = true ∧ Yt (Wk (AV.tup [AV.agg [i0 (0 : Int), i0 (0 : Int), i0 (0 : Int), s0 ⟨⟨[]⟩⟩, AV.lit (Value.slice none 0 0)], z1]) (AV.tup [AV.agg (qVQ10), z1]) ∧ SameH (hpL []) (hpL []))))))) := by kernel_rfl
end Go.Proofs.YtpofhijgccocpaaDoor
end
