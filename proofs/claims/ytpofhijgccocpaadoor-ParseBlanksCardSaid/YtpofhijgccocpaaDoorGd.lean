/- Parts of the proof of ParseBlanks. -/
import Derived.Test.YtpofhijgccocpaaDoorGc
section
namespace Go.Proofs.YtpofhijgccocpaaDoor
open Go.AS Go.TP
noncomputable section
def bW (x : Int) : ByteArray := List.getD (strsOf [Value.string ⟨⟨[]⟩⟩, Value.string ⟨⟨[32]⟩⟩, Value.string ⟨⟨[9]⟩⟩, Value.string ⟨⟨[32, 10, 32]⟩⟩]) (x % 4).toNat ByteArray.empty
theorem bW_list (x : Int) : (bW x).data.toList = blW (x % 4).toNat := by
 unfold bW
 generalize (x % 4).toNat = j
 match j with
 | 0 => rfl
 | 1 => rfl
 | 2 => rfl
 | 3 => rfl
 | j + 4 => rfl
theorem blW_len (k : Nat) : (blW k).length ≤ 3 := by
 unfold blW
 match k with
 | 0 => decide
 | 1 => decide
 | 2 => decide
 | 3 => decide
 | k + 4 => exact Nat.zero_le _
theorem bW_size (x : Int) : (bW x).size ≤ 3 := by
 have : (bW x).size = (bW x).data.toList.length := by rw [Array.length_toList]; rfl
 rw [this, bW_list]; exact blW_len _
def chP (s : ByteArray) (i : Int) : ByteArray := s.extract i.toNat (i + 1).toNat
theorem ch_one (s : ByteArray) (i : Int) (h0 : 0 ≤ i) (h : i < s.size) : ∃ c : UInt8, chP s i = ⟨⟨[c]⟩⟩ ∧ c.toNat = byteAt s i.toNat ∧ s.data.toList.drop i.toNat = c :: s.data.toList.drop (i.toNat + 1) := by
 have hi : i.toNat < s.data.size := by have : s.data.size = s.size := rfl; omega
 refine ⟨s.data[i.toNat], ?_, ?_, ?_⟩
 · unfold chP
   apply ByteArray.ext
   rw [ByteArray.data_extract]
   have e : (i + 1).toNat = i.toNat + 1 := by omega
   rw [e]
   apply Array.ext
   · simp; omega
   · intro k h1 h2
     have hk : k = 0 := by simp at h2; omega
     subst hk
     simp
 · unfold byteAt
   rw [Array.getD_eq_getD_getElem?, Array.getElem?_eq_getElem hi]; rfl
 · rw [List.drop_eq_getElem_cons (by rw [Array.length_toList]; exact hi)]; rfl
theorem plQ {s : ByteArray} {i : Int} {c : UInt8} (h : chP s i = ⟨⟨[c]⟩⟩) (d : UInt8) : (ByteArray.toList (chP s i) == ByteArray.toList ⟨⟨[d]⟩⟩) = decide (c = d) := by
 rw [strEq', h]
 by_cases e : c = d
 · subst e; rw [decide_eq_true rfl, decide_eq_true rfl]
 · rw [decide_eq_false e, decide_eq_false]
   intro g
   have g2 : ([c] : List UInt8) = [d] := congrArg (fun b : ByteArray => b.data.toList) g
   exact e (List.cons.inj g2).1
theorem plT {s : ByteArray} {i : Int} {c d : UInt8} (h : chP s i = ⟨⟨[c]⟩⟩) (e : c.toNat = d.toNat) : (ByteArray.toList (chP s i) == ByteArray.toList ⟨⟨[d]⟩⟩) = true := by
 rw [plQ h, decide_eq_true (UInt8.toNat_inj.1 e)]
theorem plF {s : ByteArray} {i : Int} {c d : UInt8} (h : chP s i = ⟨⟨[c]⟩⟩) (e : c.toNat ≠ d.toNat) : (ByteArray.toList (chP s i) == ByteArray.toList ⟨⟨[d]⟩⟩) = false := by
 rw [plQ h, decide_eq_false (fun g => e (by rw [g]))]
theorem shpPl (n : Int) : isShp (Cx.B (cxV XPl 10 fPbl)) shN 3 (i0 n) = true := by kernel_rfl
abbrev BPl (n : Nd) (ys : List Int) (s t u : ByteArray) (i : Int) (tt uu : ByteArray) : Prop := BlkOk Tryd.prog gl0 (fn fPbl).ntmps (loopAt (code fPbl) 0) [5, 1, 7, 8, 9, 10] (fun _ => [5, 8, 9]) (plArgs ys s t u i) (nHp n) fun _ q => q = plOut n tt uu
theorem XPl_ok : XPl.Sound := ((XB_ok.add spPickOk).ask _).askAt _ _
attribute [local irreducible] runL in
set_option maxRecDepth 100000 in
theorem plRound {os : Orc} {P : Prop} {n : Nd} {ys : List Int} {s t u t1 u1 : ByteArray} {i : Int} {tt uu : ByteArray} (ih : P → BPl n ys s t1 u1 (i + 1) tt uu) (g : rPl os P n ys s t u t1 u1 i tt uu) : BPl n ys s t u i tt uu :=
 lp_round1 (X := XPl) XPl_ok (f := fPbl) (fn := fn fPbl) (code := code fPbl) (fnOk fPbl (by kernel_rfl)) (show (fn fPbl).body = some (code fPbl) by kernel_rfl) (i := 0) (show ([5, 1, 7, 8, 9, 10] : List Nat).Nodup by decide) ih g
set_option maxRecDepth 100000 in
theorem rPlE_ok (n : Nd) (ys : List Int) (s t u : ByteArray) (i : Int) (h : ¬ i < s.size) : rPlE (Orc.f Orc.z) False n ys s t u t u i t u := by
 rw [rPlE_vc]; exact ⟨decide_eq_false h, rfl, .refl _, .rfl⟩
set_option maxRecDepth 100000 in
theorem rPl0T_ok (n : Nd) (ys : List Int) (s t u : ByteArray) (i : Int) (tt uu : ByteArray) (h0 : 0 ≤ i) (h : i < s.size) (hs : s.size ≤ 1000) (ht : t.size ≤ 100000) (hu : u.size ≤ 100000) (hc : byteAt s i.toNat = 43) (hy : i < ys.length) : rPl0T orPl0T True n ys s t u (t ++ bW (ys.getD i.toNat 0) ++ chP s i ++ bW (ys.getD i.toNat 0)) (u ++ ⟨⟨[32, 111, 114, 32]⟩⟩) i tt uu := by
 obtain ⟨c, he, hn, _⟩ := ch_one s i h0 h
 have hs1 : (chP s i).size = 1 := by rw [he]; rfl
 have e0 : (⟨⟨[]⟩⟩ : ByteArray).size = 0 := rfl
 rw [rPl0T_vc]
 have hi : i.toNat < ys.length := by omega
 simp only [List.length_map, intsGet ys i.toNat _ hi, shpPl, decide_eq_true (⟨h0, hy⟩ : 0 ≤ i ∧ i < (ys.length : Int))]
 generalize ys.getD i.toNat 0 = x
 have hb := bW_size x
 have h6 := Int.emod_nonneg x (by decide : (4 : Int) ≠ 0)
 have h7 := Int.emod_lt_of_pos x (by decide : (0 : Int) < 4)
 repeat (first | refine ⟨decide_eq_true (by omega), ?_⟩ | refine ⟨trivial, ?_⟩ | refine ⟨rfl, ?_⟩ | refine ⟨beq_eq_false_iff_ne.2 (by omega), ?_⟩ | refine ⟨beq_iff_eq.2 (by omega), ?_⟩)
 refine ⟨(x, 4), ⟨⟨(by decide : (0 : Int) < 4), (by decide : (4 : Int) ≤ 1000000)⟩, .refl _, trivial⟩, andT (decide_eq_true ⟨h6, h7⟩) rfl, inR_i64 (by omega) (by omega), decide_eq_true ⟨h0, (by omega : i ≤ i + 1), (by omega : i + 1 ≤ (s.size : Int)), trivial⟩, decide_eq_true ?_, decide_eq_true ?_, decide_eq_true ?_, plT he (by rw [hn]; exact hc), decide_eq_true (by omega), inR_i64 (by omega) (by omega), (), ⟨trivial, .refl _, trivial⟩, trivial, .refl _, .rfl⟩
 · show t.size + (bW x).size ≤ 9223372036854775807
   omega
 · show (t ++ bW x).size + (chP s i).size ≤ 9223372036854775807
   rw [ByteArray.size_append, hs1]; omega
 · show (t ++ bW x ++ chP s i).size + (bW x).size ≤ 9223372036854775807
   rw [ByteArray.size_append, ByteArray.size_append, hs1]; omega
set_option maxRecDepth 100000 in
theorem rPl0F_ok (n : Nd) (ys : List Int) (s t u : ByteArray) (i : Int) (tt uu : ByteArray) (h0 : 0 ≤ i) (h : i < s.size) (hs : s.size ≤ 1000) (ht : t.size ≤ 100000) (hu : u.size ≤ 100000) (hc : byteAt s i.toNat = 43) (hy : ¬ i < ys.length) : rPl0F orPl0F True n ys s t u (t ++ ⟨⟨[]⟩⟩ ++ chP s i ++ ⟨⟨[]⟩⟩) (u ++ ⟨⟨[32, 111, 114, 32]⟩⟩) i tt uu := by
 obtain ⟨c, he, hn, _⟩ := ch_one s i h0 h
 have hs1 : (chP s i).size = 1 := by rw [he]; rfl
 have e0 : (⟨⟨[]⟩⟩ : ByteArray).size = 0 := rfl
 rw [rPl0F_vc]
 simp only [List.length_map]
 repeat (first | refine ⟨decide_eq_true (by omega), ?_⟩ | refine ⟨decide_eq_false (by omega), ?_⟩ | refine ⟨trivial, ?_⟩ | refine ⟨rfl, ?_⟩ | refine ⟨beq_eq_false_iff_ne.2 (by omega), ?_⟩ | refine ⟨beq_iff_eq.2 (by omega), ?_⟩)
 refine ⟨inR_i64 (by omega) (by omega), decide_eq_true ⟨h0, (by omega : i ≤ i + 1), (by omega : i + 1 ≤ (s.size : Int)), trivial⟩, decide_eq_true ?_, decide_eq_true ?_, decide_eq_true ?_, plT he (by rw [hn]; exact hc), decide_eq_true (by omega), inR_i64 (by omega) (by omega), (), ⟨trivial, .refl _, trivial⟩, trivial, .refl _, .rfl⟩
 · show t.size + 0 ≤ 9223372036854775807
   omega
 · show (t ++ ⟨⟨[]⟩⟩).size + (chP s i).size ≤ 9223372036854775807
   rw [ByteArray.size_append, hs1, e0]; omega
 · show (t ++ ⟨⟨[]⟩⟩ ++ chP s i).size + 0 ≤ 9223372036854775807
   rw [ByteArray.size_append, ByteArray.size_append, hs1, e0]; omega
set_option maxRecDepth 100000 in
theorem rPl1T_ok (n : Nd) (ys : List Int) (s t u : ByteArray) (i : Int) (tt uu : ByteArray) (h0 : 0 ≤ i) (h : i < s.size) (hs : s.size ≤ 1000) (ht : t.size ≤ 100000) (hu : u.size ≤ 100000) (hc : byteAt s i.toNat = 45) (hy : i < ys.length) : rPl1T orPl1T True n ys s t u (t ++ bW (ys.getD i.toNat 0) ++ chP s i ++ bW (ys.getD i.toNat 0)) (u ++ ⟨⟨[32, 109, 105, 110, 117, 115, 32]⟩⟩) i tt uu := by
 obtain ⟨c, he, hn, _⟩ := ch_one s i h0 h
 have hs1 : (chP s i).size = 1 := by rw [he]; rfl
 have e0 : (⟨⟨[]⟩⟩ : ByteArray).size = 0 := rfl
 rw [rPl1T_vc]
 have hi : i.toNat < ys.length := by omega
 simp only [List.length_map, intsGet ys i.toNat _ hi, shpPl, decide_eq_true (⟨h0, hy⟩ : 0 ≤ i ∧ i < (ys.length : Int))]
 generalize ys.getD i.toNat 0 = x
 have hb := bW_size x
 have h6 := Int.emod_nonneg x (by decide : (4 : Int) ≠ 0)
 have h7 := Int.emod_lt_of_pos x (by decide : (0 : Int) < 4)
 repeat (first | refine ⟨decide_eq_true (by omega), ?_⟩ | refine ⟨trivial, ?_⟩ | refine ⟨rfl, ?_⟩ | refine ⟨beq_eq_false_iff_ne.2 (by omega), ?_⟩ | refine ⟨beq_iff_eq.2 (by omega), ?_⟩)
 refine ⟨(x, 4), ⟨⟨(by decide : (0 : Int) < 4), (by decide : (4 : Int) ≤ 1000000)⟩, .refl _, trivial⟩, andT (decide_eq_true ⟨h6, h7⟩) rfl, inR_i64 (by omega) (by omega), decide_eq_true ⟨h0, (by omega : i ≤ i + 1), (by omega : i + 1 ≤ (s.size : Int)), trivial⟩, decide_eq_true ?_, decide_eq_true ?_, decide_eq_true ?_, plF he (by rw [hn]; show byteAt s i.toNat ≠ 43; omega), plT he (by rw [hn]; exact hc), decide_eq_true (by omega), inR_i64 (by omega) (by omega), (), ⟨trivial, .refl _, trivial⟩, trivial, .refl _, .rfl⟩
 · show t.size + (bW x).size ≤ 9223372036854775807
   omega
 · show (t ++ bW x).size + (chP s i).size ≤ 9223372036854775807
   rw [ByteArray.size_append, hs1]; omega
 · show (t ++ bW x ++ chP s i).size + (bW x).size ≤ 9223372036854775807
   rw [ByteArray.size_append, ByteArray.size_append, hs1]; omega
set_option maxRecDepth 100000 in
theorem rPl1F_ok (n : Nd) (ys : List Int) (s t u : ByteArray) (i : Int) (tt uu : ByteArray) (h0 : 0 ≤ i) (h : i < s.size) (hs : s.size ≤ 1000) (ht : t.size ≤ 100000) (hu : u.size ≤ 100000) (hc : byteAt s i.toNat = 45) (hy : ¬ i < ys.length) : rPl1F orPl1F True n ys s t u (t ++ ⟨⟨[]⟩⟩ ++ chP s i ++ ⟨⟨[]⟩⟩) (u ++ ⟨⟨[32, 109, 105, 110, 117, 115, 32]⟩⟩) i tt uu := by
 obtain ⟨c, he, hn, _⟩ := ch_one s i h0 h
 have hs1 : (chP s i).size = 1 := by rw [he]; rfl
 have e0 : (⟨⟨[]⟩⟩ : ByteArray).size = 0 := rfl
 rw [rPl1F_vc]
 simp only [List.length_map]
 repeat (first | refine ⟨decide_eq_true (by omega), ?_⟩ | refine ⟨decide_eq_false (by omega), ?_⟩ | refine ⟨trivial, ?_⟩ | refine ⟨rfl, ?_⟩ | refine ⟨beq_eq_false_iff_ne.2 (by omega), ?_⟩ | refine ⟨beq_iff_eq.2 (by omega), ?_⟩)
 refine ⟨inR_i64 (by omega) (by omega), decide_eq_true ⟨h0, (by omega : i ≤ i + 1), (by omega : i + 1 ≤ (s.size : Int)), trivial⟩, decide_eq_true ?_, decide_eq_true ?_, decide_eq_true ?_, plF he (by rw [hn]; show byteAt s i.toNat ≠ 43; omega), plT he (by rw [hn]; exact hc), decide_eq_true (by omega), inR_i64 (by omega) (by omega), (), ⟨trivial, .refl _, trivial⟩, trivial, .refl _, .rfl⟩
 · show t.size + 0 ≤ 9223372036854775807
   omega
 · show (t ++ ⟨⟨[]⟩⟩).size + (chP s i).size ≤ 9223372036854775807
   rw [ByteArray.size_append, hs1, e0]; omega
 · show (t ++ ⟨⟨[]⟩⟩ ++ chP s i).size + 0 ≤ 9223372036854775807
   rw [ByteArray.size_append, ByteArray.size_append, hs1, e0]; omega
set_option maxRecDepth 100000 in
theorem rPl2T_ok (n : Nd) (ys : List Int) (s t u : ByteArray) (i : Int) (tt uu : ByteArray) (h0 : 0 ≤ i) (h : i < s.size) (hs : s.size ≤ 1000) (ht : t.size ≤ 100000) (hu : u.size ≤ 100000) (hc : byteAt s i.toNat = 38) (hy : i < ys.length) : rPl2T orPl2T True n ys s t u (t ++ bW (ys.getD i.toNat 0) ++ chP s i ++ bW (ys.getD i.toNat 0)) (u ++ ⟨⟨[32, 97, 110, 100, 32]⟩⟩) i tt uu := by
 obtain ⟨c, he, hn, _⟩ := ch_one s i h0 h
 have hs1 : (chP s i).size = 1 := by rw [he]; rfl
 have e0 : (⟨⟨[]⟩⟩ : ByteArray).size = 0 := rfl
 rw [rPl2T_vc]
 have hi : i.toNat < ys.length := by omega
 simp only [List.length_map, intsGet ys i.toNat _ hi, shpPl, decide_eq_true (⟨h0, hy⟩ : 0 ≤ i ∧ i < (ys.length : Int))]
 generalize ys.getD i.toNat 0 = x
 have hb := bW_size x
 have h6 := Int.emod_nonneg x (by decide : (4 : Int) ≠ 0)
 have h7 := Int.emod_lt_of_pos x (by decide : (0 : Int) < 4)
 repeat (first | refine ⟨decide_eq_true (by omega), ?_⟩ | refine ⟨trivial, ?_⟩ | refine ⟨rfl, ?_⟩ | refine ⟨beq_eq_false_iff_ne.2 (by omega), ?_⟩ | refine ⟨beq_iff_eq.2 (by omega), ?_⟩)
 refine ⟨(x, 4), ⟨⟨(by decide : (0 : Int) < 4), (by decide : (4 : Int) ≤ 1000000)⟩, .refl _, trivial⟩, andT (decide_eq_true ⟨h6, h7⟩) rfl, inR_i64 (by omega) (by omega), decide_eq_true ⟨h0, (by omega : i ≤ i + 1), (by omega : i + 1 ≤ (s.size : Int)), trivial⟩, decide_eq_true ?_, decide_eq_true ?_, decide_eq_true ?_, plF he (by rw [hn]; show byteAt s i.toNat ≠ 43; omega), plF he (by rw [hn]; show byteAt s i.toNat ≠ 45; omega), plT he (by rw [hn]; exact hc), decide_eq_true (by omega), inR_i64 (by omega) (by omega), (), ⟨trivial, .refl _, trivial⟩, trivial, .refl _, .rfl⟩
 · show t.size + (bW x).size ≤ 9223372036854775807
   omega
 · show (t ++ bW x).size + (chP s i).size ≤ 9223372036854775807
   rw [ByteArray.size_append, hs1]; omega
 · show (t ++ bW x ++ chP s i).size + (bW x).size ≤ 9223372036854775807
   rw [ByteArray.size_append, ByteArray.size_append, hs1]; omega
set_option maxRecDepth 100000 in
theorem rPl2F_ok (n : Nd) (ys : List Int) (s t u : ByteArray) (i : Int) (tt uu : ByteArray) (h0 : 0 ≤ i) (h : i < s.size) (hs : s.size ≤ 1000) (ht : t.size ≤ 100000) (hu : u.size ≤ 100000) (hc : byteAt s i.toNat = 38) (hy : ¬ i < ys.length) : rPl2F orPl2F True n ys s t u (t ++ ⟨⟨[]⟩⟩ ++ chP s i ++ ⟨⟨[]⟩⟩) (u ++ ⟨⟨[32, 97, 110, 100, 32]⟩⟩) i tt uu := by
 obtain ⟨c, he, hn, _⟩ := ch_one s i h0 h
 have hs1 : (chP s i).size = 1 := by rw [he]; rfl
 have e0 : (⟨⟨[]⟩⟩ : ByteArray).size = 0 := rfl
 rw [rPl2F_vc]
 simp only [List.length_map]
 repeat (first | refine ⟨decide_eq_true (by omega), ?_⟩ | refine ⟨decide_eq_false (by omega), ?_⟩ | refine ⟨trivial, ?_⟩ | refine ⟨rfl, ?_⟩ | refine ⟨beq_eq_false_iff_ne.2 (by omega), ?_⟩ | refine ⟨beq_iff_eq.2 (by omega), ?_⟩)
 refine ⟨inR_i64 (by omega) (by omega), decide_eq_true ⟨h0, (by omega : i ≤ i + 1), (by omega : i + 1 ≤ (s.size : Int)), trivial⟩, decide_eq_true ?_, decide_eq_true ?_, decide_eq_true ?_, plF he (by rw [hn]; show byteAt s i.toNat ≠ 43; omega), plF he (by rw [hn]; show byteAt s i.toNat ≠ 45; omega), plT he (by rw [hn]; exact hc), decide_eq_true (by omega), inR_i64 (by omega) (by omega), (), ⟨trivial, .refl _, trivial⟩, trivial, .refl _, .rfl⟩
 · show t.size + 0 ≤ 9223372036854775807
   omega
 · show (t ++ ⟨⟨[]⟩⟩).size + (chP s i).size ≤ 9223372036854775807
   rw [ByteArray.size_append, hs1, e0]; omega
 · show (t ++ ⟨⟨[]⟩⟩ ++ chP s i).size + 0 ≤ 9223372036854775807
   rw [ByteArray.size_append, ByteArray.size_append, hs1, e0]; omega
set_option maxRecDepth 100000 in
theorem rPl3T_ok (n : Nd) (ys : List Int) (s t u : ByteArray) (i : Int) (tt uu : ByteArray) (h0 : 0 ≤ i) (h : i < s.size) (hs : s.size ≤ 1000) (ht : t.size ≤ 100000) (hu : u.size ≤ 100000) (hc : byteAt s i.toNat = 33) (hy : i < ys.length) : rPl3T orPl3T True n ys s t u (t ++ bW (ys.getD i.toNat 0) ++ chP s i ++ bW (ys.getD i.toNat 0)) (u ++ ⟨⟨[32, 110, 111, 116, 32]⟩⟩) i tt uu := by
 obtain ⟨c, he, hn, _⟩ := ch_one s i h0 h
 have hs1 : (chP s i).size = 1 := by rw [he]; rfl
 have e0 : (⟨⟨[]⟩⟩ : ByteArray).size = 0 := rfl
 rw [rPl3T_vc]
 have hi : i.toNat < ys.length := by omega
 simp only [List.length_map, intsGet ys i.toNat _ hi, shpPl, decide_eq_true (⟨h0, hy⟩ : 0 ≤ i ∧ i < (ys.length : Int))]
 generalize ys.getD i.toNat 0 = x
 have hb := bW_size x
 have h6 := Int.emod_nonneg x (by decide : (4 : Int) ≠ 0)
 have h7 := Int.emod_lt_of_pos x (by decide : (0 : Int) < 4)
 repeat (first | refine ⟨decide_eq_true (by omega), ?_⟩ | refine ⟨trivial, ?_⟩ | refine ⟨rfl, ?_⟩ | refine ⟨beq_eq_false_iff_ne.2 (by omega), ?_⟩ | refine ⟨beq_iff_eq.2 (by omega), ?_⟩)
 refine ⟨(x, 4), ⟨⟨(by decide : (0 : Int) < 4), (by decide : (4 : Int) ≤ 1000000)⟩, .refl _, trivial⟩, andT (decide_eq_true ⟨h6, h7⟩) rfl, inR_i64 (by omega) (by omega), decide_eq_true ⟨h0, (by omega : i ≤ i + 1), (by omega : i + 1 ≤ (s.size : Int)), trivial⟩, decide_eq_true ?_, decide_eq_true ?_, decide_eq_true ?_, plF he (by rw [hn]; show byteAt s i.toNat ≠ 43; omega), plF he (by rw [hn]; show byteAt s i.toNat ≠ 45; omega), plF he (by rw [hn]; show byteAt s i.toNat ≠ 38; omega), plT he (by rw [hn]; exact hc), decide_eq_true (by omega), inR_i64 (by omega) (by omega), (), ⟨trivial, .refl _, trivial⟩, trivial, .refl _, .rfl⟩
 · show t.size + (bW x).size ≤ 9223372036854775807
   omega
 · show (t ++ bW x).size + (chP s i).size ≤ 9223372036854775807
   rw [ByteArray.size_append, hs1]; omega
 · show (t ++ bW x ++ chP s i).size + (bW x).size ≤ 9223372036854775807
   rw [ByteArray.size_append, ByteArray.size_append, hs1]; omega
set_option maxRecDepth 100000 in
theorem rPl3F_ok (n : Nd) (ys : List Int) (s t u : ByteArray) (i : Int) (tt uu : ByteArray) (h0 : 0 ≤ i) (h : i < s.size) (hs : s.size ≤ 1000) (ht : t.size ≤ 100000) (hu : u.size ≤ 100000) (hc : byteAt s i.toNat = 33) (hy : ¬ i < ys.length) : rPl3F orPl3F True n ys s t u (t ++ ⟨⟨[]⟩⟩ ++ chP s i ++ ⟨⟨[]⟩⟩) (u ++ ⟨⟨[32, 110, 111, 116, 32]⟩⟩) i tt uu := by
 obtain ⟨c, he, hn, _⟩ := ch_one s i h0 h
 have hs1 : (chP s i).size = 1 := by rw [he]; rfl
 have e0 : (⟨⟨[]⟩⟩ : ByteArray).size = 0 := rfl
 rw [rPl3F_vc]
 simp only [List.length_map]
 repeat (first | refine ⟨decide_eq_true (by omega), ?_⟩ | refine ⟨decide_eq_false (by omega), ?_⟩ | refine ⟨trivial, ?_⟩ | refine ⟨rfl, ?_⟩ | refine ⟨beq_eq_false_iff_ne.2 (by omega), ?_⟩ | refine ⟨beq_iff_eq.2 (by omega), ?_⟩)
 refine ⟨inR_i64 (by omega) (by omega), decide_eq_true ⟨h0, (by omega : i ≤ i + 1), (by omega : i + 1 ≤ (s.size : Int)), trivial⟩, decide_eq_true ?_, decide_eq_true ?_, decide_eq_true ?_, plF he (by rw [hn]; show byteAt s i.toNat ≠ 43; omega), plF he (by rw [hn]; show byteAt s i.toNat ≠ 45; omega), plF he (by rw [hn]; show byteAt s i.toNat ≠ 38; omega), plT he (by rw [hn]; exact hc), decide_eq_true (by omega), inR_i64 (by omega) (by omega), (), ⟨trivial, .refl _, trivial⟩, trivial, .refl _, .rfl⟩
 · show t.size + 0 ≤ 9223372036854775807
   omega
 · show (t ++ ⟨⟨[]⟩⟩).size + (chP s i).size ≤ 9223372036854775807
   rw [ByteArray.size_append, hs1, e0]; omega
 · show (t ++ ⟨⟨[]⟩⟩ ++ chP s i).size + 0 ≤ 9223372036854775807
   rw [ByteArray.size_append, ByteArray.size_append, hs1, e0]; omega
set_option maxRecDepth 100000 in
theorem rPl4T_ok (n : Nd) (ys : List Int) (s t u : ByteArray) (i : Int) (tt uu : ByteArray) (h0 : 0 ≤ i) (h : i < s.size) (hs : s.size ≤ 1000) (ht : t.size ≤ 100000) (hu : u.size ≤ 100000) (hc : byteAt s i.toNat = 40) (hy : i < ys.length) : rPl4T orPl4T True n ys s t u (t ++ bW (ys.getD i.toNat 0) ++ chP s i ++ bW (ys.getD i.toNat 0)) (u ++ chP s i) i tt uu := by
 obtain ⟨c, he, hn, _⟩ := ch_one s i h0 h
 have hs1 : (chP s i).size = 1 := by rw [he]; rfl
 have e0 : (⟨⟨[]⟩⟩ : ByteArray).size = 0 := rfl
 rw [rPl4T_vc]
 have hi : i.toNat < ys.length := by omega
 simp only [List.length_map, intsGet ys i.toNat _ hi, shpPl, decide_eq_true (⟨h0, hy⟩ : 0 ≤ i ∧ i < (ys.length : Int))]
 generalize ys.getD i.toNat 0 = x
 have hb := bW_size x
 have h6 := Int.emod_nonneg x (by decide : (4 : Int) ≠ 0)
 have h7 := Int.emod_lt_of_pos x (by decide : (0 : Int) < 4)
 repeat (first | refine ⟨decide_eq_true (by omega), ?_⟩ | refine ⟨trivial, ?_⟩ | refine ⟨rfl, ?_⟩ | refine ⟨beq_eq_false_iff_ne.2 (by omega), ?_⟩ | refine ⟨beq_iff_eq.2 (by omega), ?_⟩)
 refine ⟨(x, 4), ⟨⟨(by decide : (0 : Int) < 4), (by decide : (4 : Int) ≤ 1000000)⟩, .refl _, trivial⟩, andT (decide_eq_true ⟨h6, h7⟩) rfl, inR_i64 (by omega) (by omega), decide_eq_true ⟨h0, (by omega : i ≤ i + 1), (by omega : i + 1 ≤ (s.size : Int)), trivial⟩, decide_eq_true ?_, decide_eq_true ?_, decide_eq_true ?_, plF he (by rw [hn]; show byteAt s i.toNat ≠ 43; omega), plF he (by rw [hn]; show byteAt s i.toNat ≠ 45; omega), plF he (by rw [hn]; show byteAt s i.toNat ≠ 38; omega), plF he (by rw [hn]; show byteAt s i.toNat ≠ 33; omega), decide_eq_true ?_, inR_i64 (by omega) (by omega), (), ⟨trivial, .refl _, trivial⟩, trivial, .refl _, .rfl⟩
 · show t.size + (bW x).size ≤ 9223372036854775807
   omega
 · show (t ++ bW x).size + (chP s i).size ≤ 9223372036854775807
   rw [ByteArray.size_append, hs1]; omega
 · show (t ++ bW x ++ chP s i).size + (bW x).size ≤ 9223372036854775807
   rw [ByteArray.size_append, ByteArray.size_append, hs1]; omega
 · show u.size + (chP s i).size ≤ 9223372036854775807
   rw [hs1]; omega
set_option maxRecDepth 100000 in
theorem rPl4F_ok (n : Nd) (ys : List Int) (s t u : ByteArray) (i : Int) (tt uu : ByteArray) (h0 : 0 ≤ i) (h : i < s.size) (hs : s.size ≤ 1000) (ht : t.size ≤ 100000) (hu : u.size ≤ 100000) (hc : byteAt s i.toNat = 40) (hy : ¬ i < ys.length) : rPl4F orPl4F True n ys s t u (t ++ ⟨⟨[]⟩⟩ ++ chP s i ++ ⟨⟨[]⟩⟩) (u ++ chP s i) i tt uu := by
 obtain ⟨c, he, hn, _⟩ := ch_one s i h0 h
 have hs1 : (chP s i).size = 1 := by rw [he]; rfl
 have e0 : (⟨⟨[]⟩⟩ : ByteArray).size = 0 := rfl
 rw [rPl4F_vc]
 simp only [List.length_map]
 repeat (first | refine ⟨decide_eq_true (by omega), ?_⟩ | refine ⟨decide_eq_false (by omega), ?_⟩ | refine ⟨trivial, ?_⟩ | refine ⟨rfl, ?_⟩ | refine ⟨beq_eq_false_iff_ne.2 (by omega), ?_⟩ | refine ⟨beq_iff_eq.2 (by omega), ?_⟩)
 refine ⟨inR_i64 (by omega) (by omega), decide_eq_true ⟨h0, (by omega : i ≤ i + 1), (by omega : i + 1 ≤ (s.size : Int)), trivial⟩, decide_eq_true ?_, decide_eq_true ?_, decide_eq_true ?_, plF he (by rw [hn]; show byteAt s i.toNat ≠ 43; omega), plF he (by rw [hn]; show byteAt s i.toNat ≠ 45; omega), plF he (by rw [hn]; show byteAt s i.toNat ≠ 38; omega), plF he (by rw [hn]; show byteAt s i.toNat ≠ 33; omega), decide_eq_true ?_, inR_i64 (by omega) (by omega), (), ⟨trivial, .refl _, trivial⟩, trivial, .refl _, .rfl⟩
 · show t.size + 0 ≤ 9223372036854775807
   omega
 · show (t ++ ⟨⟨[]⟩⟩).size + (chP s i).size ≤ 9223372036854775807
   rw [ByteArray.size_append, hs1, e0]; omega
 · show (t ++ ⟨⟨[]⟩⟩ ++ chP s i).size + 0 ≤ 9223372036854775807
   rw [ByteArray.size_append, ByteArray.size_append, hs1, e0]; omega
 · show u.size + (chP s i).size ≤ 9223372036854775807
   rw [hs1]; omega
set_option maxRecDepth 100000 in
theorem rPl5T_ok (n : Nd) (ys : List Int) (s t u : ByteArray) (i : Int) (tt uu : ByteArray) (h0 : 0 ≤ i) (h : i < s.size) (hs : s.size ≤ 1000) (ht : t.size ≤ 100000) (hu : u.size ≤ 100000) (hc : byteAt s i.toNat = 41) (hy : i < ys.length) : rPl5T orPl5T True n ys s t u (t ++ bW (ys.getD i.toNat 0) ++ chP s i ++ bW (ys.getD i.toNat 0)) (u ++ chP s i) i tt uu := by
 obtain ⟨c, he, hn, _⟩ := ch_one s i h0 h
 have hs1 : (chP s i).size = 1 := by rw [he]; rfl
 have e0 : (⟨⟨[]⟩⟩ : ByteArray).size = 0 := rfl
 rw [rPl5T_vc]
 have hi : i.toNat < ys.length := by omega
 simp only [List.length_map, intsGet ys i.toNat _ hi, shpPl, decide_eq_true (⟨h0, hy⟩ : 0 ≤ i ∧ i < (ys.length : Int))]
 generalize ys.getD i.toNat 0 = x
 have hb := bW_size x
 have h6 := Int.emod_nonneg x (by decide : (4 : Int) ≠ 0)
 have h7 := Int.emod_lt_of_pos x (by decide : (0 : Int) < 4)
 repeat (first | refine ⟨decide_eq_true (by omega), ?_⟩ | refine ⟨trivial, ?_⟩ | refine ⟨rfl, ?_⟩ | refine ⟨beq_eq_false_iff_ne.2 (by omega), ?_⟩ | refine ⟨beq_iff_eq.2 (by omega), ?_⟩)
 refine ⟨(x, 4), ⟨⟨(by decide : (0 : Int) < 4), (by decide : (4 : Int) ≤ 1000000)⟩, .refl _, trivial⟩, andT (decide_eq_true ⟨h6, h7⟩) rfl, inR_i64 (by omega) (by omega), decide_eq_true ⟨h0, (by omega : i ≤ i + 1), (by omega : i + 1 ≤ (s.size : Int)), trivial⟩, decide_eq_true ?_, decide_eq_true ?_, decide_eq_true ?_, plF he (by rw [hn]; show byteAt s i.toNat ≠ 43; omega), plF he (by rw [hn]; show byteAt s i.toNat ≠ 45; omega), plF he (by rw [hn]; show byteAt s i.toNat ≠ 38; omega), plF he (by rw [hn]; show byteAt s i.toNat ≠ 33; omega), decide_eq_true ?_, inR_i64 (by omega) (by omega), (), ⟨trivial, .refl _, trivial⟩, trivial, .refl _, .rfl⟩
 · show t.size + (bW x).size ≤ 9223372036854775807
   omega
 · show (t ++ bW x).size + (chP s i).size ≤ 9223372036854775807
   rw [ByteArray.size_append, hs1]; omega
 · show (t ++ bW x ++ chP s i).size + (bW x).size ≤ 9223372036854775807
   rw [ByteArray.size_append, ByteArray.size_append, hs1]; omega
 · show u.size + (chP s i).size ≤ 9223372036854775807
   rw [hs1]; omega
set_option maxRecDepth 100000 in
theorem rPl5F_ok (n : Nd) (ys : List Int) (s t u : ByteArray) (i : Int) (tt uu : ByteArray) (h0 : 0 ≤ i) (h : i < s.size) (hs : s.size ≤ 1000) (ht : t.size ≤ 100000) (hu : u.size ≤ 100000) (hc : byteAt s i.toNat = 41) (hy : ¬ i < ys.length) : rPl5F orPl5F True n ys s t u (t ++ ⟨⟨[]⟩⟩ ++ chP s i ++ ⟨⟨[]⟩⟩) (u ++ chP s i) i tt uu := by
 obtain ⟨c, he, hn, _⟩ := ch_one s i h0 h
 have hs1 : (chP s i).size = 1 := by rw [he]; rfl
 have e0 : (⟨⟨[]⟩⟩ : ByteArray).size = 0 := rfl
 rw [rPl5F_vc]
 simp only [List.length_map]
 repeat (first | refine ⟨decide_eq_true (by omega), ?_⟩ | refine ⟨decide_eq_false (by omega), ?_⟩ | refine ⟨trivial, ?_⟩ | refine ⟨rfl, ?_⟩ | refine ⟨beq_eq_false_iff_ne.2 (by omega), ?_⟩ | refine ⟨beq_iff_eq.2 (by omega), ?_⟩)
 refine ⟨inR_i64 (by omega) (by omega), decide_eq_true ⟨h0, (by omega : i ≤ i + 1), (by omega : i + 1 ≤ (s.size : Int)), trivial⟩, decide_eq_true ?_, decide_eq_true ?_, decide_eq_true ?_, plF he (by rw [hn]; show byteAt s i.toNat ≠ 43; omega), plF he (by rw [hn]; show byteAt s i.toNat ≠ 45; omega), plF he (by rw [hn]; show byteAt s i.toNat ≠ 38; omega), plF he (by rw [hn]; show byteAt s i.toNat ≠ 33; omega), decide_eq_true ?_, inR_i64 (by omega) (by omega), (), ⟨trivial, .refl _, trivial⟩, trivial, .refl _, .rfl⟩
 · show t.size + 0 ≤ 9223372036854775807
   omega
 · show (t ++ ⟨⟨[]⟩⟩).size + (chP s i).size ≤ 9223372036854775807
   rw [ByteArray.size_append, hs1, e0]; omega
 · show (t ++ ⟨⟨[]⟩⟩ ++ chP s i).size + 0 ≤ 9223372036854775807
   rw [ByteArray.size_append, ByteArray.size_append, hs1, e0]; omega
 · show u.size + (chP s i).size ≤ 9223372036854775807
   rw [hs1]; omega
set_option maxRecDepth 100000 in
theorem rPl6T_ok (n : Nd) (ys : List Int) (s t u : ByteArray) (i : Int) (tt uu : ByteArray) (h0 : 0 ≤ i) (h : i < s.size) (hs : s.size ≤ 1000) (ht : t.size ≤ 100000) (hu : u.size ≤ 100000) (hc : byteAt s i.toNat = 44) (hy : i < ys.length) : rPl6T orPl6T True n ys s t u (t ++ bW (ys.getD i.toNat 0) ++ chP s i ++ bW (ys.getD i.toNat 0)) (u ++ chP s i) i tt uu := by
 obtain ⟨c, he, hn, _⟩ := ch_one s i h0 h
 have hs1 : (chP s i).size = 1 := by rw [he]; rfl
 have e0 : (⟨⟨[]⟩⟩ : ByteArray).size = 0 := rfl
 rw [rPl6T_vc]
 have hi : i.toNat < ys.length := by omega
 simp only [List.length_map, intsGet ys i.toNat _ hi, shpPl, decide_eq_true (⟨h0, hy⟩ : 0 ≤ i ∧ i < (ys.length : Int))]
 generalize ys.getD i.toNat 0 = x
 have hb := bW_size x
 have h6 := Int.emod_nonneg x (by decide : (4 : Int) ≠ 0)
 have h7 := Int.emod_lt_of_pos x (by decide : (0 : Int) < 4)
 repeat (first | refine ⟨decide_eq_true (by omega), ?_⟩ | refine ⟨trivial, ?_⟩ | refine ⟨rfl, ?_⟩ | refine ⟨beq_eq_false_iff_ne.2 (by omega), ?_⟩ | refine ⟨beq_iff_eq.2 (by omega), ?_⟩)
 refine ⟨(x, 4), ⟨⟨(by decide : (0 : Int) < 4), (by decide : (4 : Int) ≤ 1000000)⟩, .refl _, trivial⟩, andT (decide_eq_true ⟨h6, h7⟩) rfl, inR_i64 (by omega) (by omega), decide_eq_true ⟨h0, (by omega : i ≤ i + 1), (by omega : i + 1 ≤ (s.size : Int)), trivial⟩, decide_eq_true ?_, decide_eq_true ?_, decide_eq_true ?_, plF he (by rw [hn]; show byteAt s i.toNat ≠ 43; omega), plF he (by rw [hn]; show byteAt s i.toNat ≠ 45; omega), plF he (by rw [hn]; show byteAt s i.toNat ≠ 38; omega), plF he (by rw [hn]; show byteAt s i.toNat ≠ 33; omega), decide_eq_true ?_, inR_i64 (by omega) (by omega), (), ⟨trivial, .refl _, trivial⟩, trivial, .refl _, .rfl⟩
 · show t.size + (bW x).size ≤ 9223372036854775807
   omega
 · show (t ++ bW x).size + (chP s i).size ≤ 9223372036854775807
   rw [ByteArray.size_append, hs1]; omega
 · show (t ++ bW x ++ chP s i).size + (bW x).size ≤ 9223372036854775807
   rw [ByteArray.size_append, ByteArray.size_append, hs1]; omega
 · show u.size + (chP s i).size ≤ 9223372036854775807
   rw [hs1]; omega
set_option maxRecDepth 100000 in
theorem rPl6F_ok (n : Nd) (ys : List Int) (s t u : ByteArray) (i : Int) (tt uu : ByteArray) (h0 : 0 ≤ i) (h : i < s.size) (hs : s.size ≤ 1000) (ht : t.size ≤ 100000) (hu : u.size ≤ 100000) (hc : byteAt s i.toNat = 44) (hy : ¬ i < ys.length) : rPl6F orPl6F True n ys s t u (t ++ ⟨⟨[]⟩⟩ ++ chP s i ++ ⟨⟨[]⟩⟩) (u ++ chP s i) i tt uu := by
 obtain ⟨c, he, hn, _⟩ := ch_one s i h0 h
 have hs1 : (chP s i).size = 1 := by rw [he]; rfl
 have e0 : (⟨⟨[]⟩⟩ : ByteArray).size = 0 := rfl
 rw [rPl6F_vc]
 simp only [List.length_map]
 repeat (first | refine ⟨decide_eq_true (by omega), ?_⟩ | refine ⟨decide_eq_false (by omega), ?_⟩ | refine ⟨trivial, ?_⟩ | refine ⟨rfl, ?_⟩ | refine ⟨beq_eq_false_iff_ne.2 (by omega), ?_⟩ | refine ⟨beq_iff_eq.2 (by omega), ?_⟩)
 refine ⟨inR_i64 (by omega) (by omega), decide_eq_true ⟨h0, (by omega : i ≤ i + 1), (by omega : i + 1 ≤ (s.size : Int)), trivial⟩, decide_eq_true ?_, decide_eq_true ?_, decide_eq_true ?_, plF he (by rw [hn]; show byteAt s i.toNat ≠ 43; omega), plF he (by rw [hn]; show byteAt s i.toNat ≠ 45; omega), plF he (by rw [hn]; show byteAt s i.toNat ≠ 38; omega), plF he (by rw [hn]; show byteAt s i.toNat ≠ 33; omega), decide_eq_true ?_, inR_i64 (by omega) (by omega), (), ⟨trivial, .refl _, trivial⟩, trivial, .refl _, .rfl⟩
 · show t.size + 0 ≤ 9223372036854775807
   omega
 · show (t ++ ⟨⟨[]⟩⟩).size + (chP s i).size ≤ 9223372036854775807
   rw [ByteArray.size_append, hs1, e0]; omega
 · show (t ++ ⟨⟨[]⟩⟩ ++ chP s i).size + 0 ≤ 9223372036854775807
   rw [ByteArray.size_append, ByteArray.size_append, hs1, e0]; omega
 · show u.size + (chP s i).size ≤ 9223372036854775807
   rw [hs1]; omega
set_option maxRecDepth 100000 in
theorem rPl7_ok (n : Nd) (ys : List Int) (s t u : ByteArray) (i : Int) (tt uu : ByteArray) (h0 : 0 ≤ i) (h : i < s.size) (hs : s.size ≤ 1000) (ht : t.size ≤ 100000) (hu : u.size ≤ 100000) (hc : byteAt s i.toNat ≠ 43 ∧ byteAt s i.toNat ≠ 45 ∧ byteAt s i.toNat ≠ 38 ∧ byteAt s i.toNat ≠ 33 ∧ byteAt s i.toNat ≠ 40 ∧ byteAt s i.toNat ≠ 41 ∧ byteAt s i.toNat ≠ 44) : rPl7 orPl7 True n ys s t u (t ++ ⟨⟨[]⟩⟩ ++ chP s i ++ ⟨⟨[]⟩⟩) (u ++ chP s i) i tt uu := by
 obtain ⟨c, he, hn, _⟩ := ch_one s i h0 h
 have hs1 : (chP s i).size = 1 := by rw [he]; rfl
 have e0 : (⟨⟨[]⟩⟩ : ByteArray).size = 0 := rfl
 rw [rPl7_vc]
 repeat (first | refine ⟨decide_eq_true (by omega), ?_⟩ | refine ⟨trivial, ?_⟩ | refine ⟨rfl, ?_⟩ | refine ⟨beq_eq_false_iff_ne.2 (by omega), ?_⟩ | refine ⟨beq_iff_eq.2 (by omega), ?_⟩)
 refine ⟨inR_i64 (by omega) (by omega), decide_eq_true ⟨h0, (by omega : i ≤ i + 1), (by omega : i + 1 ≤ (s.size : Int)), rfl⟩, decide_eq_true ?_, decide_eq_true ?_, decide_eq_true ?_, plF he (by rw [hn]; show byteAt s i.toNat ≠ 43; omega), plF he (by rw [hn]; show byteAt s i.toNat ≠ 45; omega), plF he (by rw [hn]; show byteAt s i.toNat ≠ 38; omega), plF he (by rw [hn]; show byteAt s i.toNat ≠ 33; omega), decide_eq_true ?_, inR_i64 (by omega) (by omega), (), ⟨trivial, .refl _, rfl⟩, rfl, .refl _, .rfl⟩
 · show t.size + 0 ≤ 9223372036854775807
   omega
 · show (t ++ ⟨⟨[]⟩⟩).size + (chP s i).size ≤ 9223372036854775807
   rw [ByteArray.size_append, hs1, e0]; omega
 · show (t ++ ⟨⟨[]⟩⟩ ++ chP s i).size + 0 ≤ 9223372036854775807
   rw [ByteArray.size_append, ByteArray.size_append, hs1, e0]; omega
 · show u.size + (chP s i).size ≤ 9223372036854775807
   rw [hs1]; omega
end
end Go.Proofs.YtpofhijgccocpaaDoor
end
section
namespace Go.Proofs.YtpofhijgccocpaaDoor
open Go.AS Go.TP
noncomputable section
theorem size_list (b : ByteArray) : b.size = b.data.toList.length := by rw [Array.length_toList]; rfl
theorem blAt_len (ys : List Int) (i : Nat) : (blAt ys i).length ≤ 3 := by
 unfold blAt
 split
 · exact blW_len _
 · exact Nat.zero_le _
theorem tAt_len (ys : List Int) (i : Nat) (c : UInt8) : (tAt ys i c).length ≤ 7 := by
 have := blAt_len ys i
 unfold tAt
 split
 · rw [List.length_append, List.length_cons]; omega
 · exact Nat.le_of_ble_eq_true rfl
theorem uAt_len (c : UInt8) : (uAt c).length ≤ 7 := by
 unfold uAt
 split
 · decide
 · split
   · decide
   · split
     · decide
     · split <;> exact Nat.le_of_ble_eq_true rfl
attribute [local irreducible] runL in
set_option maxRecDepth 100000 in
theorem plL (n : Nd) (ys : List Int) (s : ByteArray) (hs : s.size ≤ 1000) : ∀ (m : Nat) (i : Int) (t u : ByteArray), 0 ≤ i → i ≤ s.size → s.size - i ≤ m → (t.size : Int) ≤ 7 * i → (u.size : Int) ≤ 7 * i →
  ∃ tt uu, BPl n ys s t u i tt uu ∧ tt.data.toList = t.data.toList ++ tGo ys (s.data.toList.drop i.toNat) i.toNat ∧ uu.data.toList = u.data.toList ++ uGo (s.data.toList.drop i.toNat) := by
 have done : ∀ (i : Int) (t u : ByteArray), 0 ≤ i → ¬ i < s.size → ∃ tt uu, BPl n ys s t u i tt uu ∧ tt.data.toList = t.data.toList ++ tGo ys (s.data.toList.drop i.toNat) i.toNat ∧ uu.data.toList = u.data.toList ++ uGo (s.data.toList.drop i.toNat) := fun i t u h0 h => by
  have hd : s.data.toList.drop i.toNat = [] := List.drop_eq_nil_of_le (by rw [← size_list]; omega)
  rw [hd]
  exact ⟨t, u, plRound (P := False) (t1 := t) (u1 := u) (fun h => h.elim) (rPlE_ok n ys s t u i h), by rw [tGo, List.append_nil], by rw [uGo, List.append_nil]⟩
 intro m
 induction m with
 | zero => intro i t u h0 h1 hm ht hu; exact done i t u h0 (by omega)
 | succ m ih =>
  intro i t u h0 h1 hm ht hu
  by_cases h : i < s.size
  · obtain ⟨c, he, hn, hdr⟩ := ch_one s i h0 h
    have hcl : (chP s i).data.toList = [c] := by rw [he]
    have e1 : (i + 1).toNat = i.toNat + 1 := by omega
    have fin : ∀ (t1 u1 : ByteArray), t1.data.toList = t.data.toList ++ tAt ys i.toNat c → u1.data.toList = u.data.toList ++ uAt c → (∀ tt uu, BPl n ys s t1 u1 (i + 1) tt uu → BPl n ys s t u i tt uu) →
        ∃ tt uu, BPl n ys s t u i tt uu ∧ tt.data.toList = t.data.toList ++ tGo ys (s.data.toList.drop i.toNat) i.toNat ∧ uu.data.toList = u.data.toList ++ uGo (s.data.toList.drop i.toNat) := fun t1 u1 g1 g2 g3 => by
      have l1 : t1.size = t.size + (tAt ys i.toNat c).length := by rw [size_list t1, size_list t, g1, List.length_append]
      have l2 : u1.size = u.size + (uAt c).length := by rw [size_list u1, size_list u, g2, List.length_append]
      have k1 := tAt_len ys i.toNat c
      have k2 := uAt_len c
      obtain ⟨tt, uu, q1, q2, q3⟩ := ih (i + 1) t1 u1 (by omega) (by omega) (by omega) (by omega) (by omega)
      refine ⟨tt, uu, g3 tt uu q1, ?_, ?_⟩
      · rw [q2, g1, hdr, tGo, e1, List.append_assoc]
      · rw [q3, g2, hdr, uGo, e1, List.append_assoc]
    have el : ∀ d : Nat, d < 256 → byteAt s i.toNat = d → c = UInt8.ofNat d := fun d hd e => UInt8.toNat_inj.1 (by rw [hn, e]; exact (UInt8.toNat_ofNat_of_lt hd).symm)
    have tT : i.toNat < ys.length → isSgn c = true → (t ++ bW (ys.getD i.toNat 0) ++ chP s i ++ bW (ys.getD i.toNat 0)).data.toList = t.data.toList ++ tAt ys i.toNat c := fun hy hc => by
      rw [bytes_app, bytes_app, bytes_app, bW_list, hcl]
      unfold tAt blAt
      rw [if_pos hc, if_pos hy]
      simp only [List.append_assoc, List.singleton_append]
    have tF : ¬ i.toNat < ys.length → isSgn c = true → (t ++ ⟨⟨[]⟩⟩ ++ chP s i ++ ⟨⟨[]⟩⟩).data.toList = t.data.toList ++ tAt ys i.toNat c := fun hy hc => by
      rw [bytes_app, bytes_app, bytes_app, hcl]
      unfold tAt blAt
      rw [if_pos hc, if_neg hy]
      simp only [List.append_nil, List.nil_append]
    have t7 : isSgn c = false → (t ++ ⟨⟨[]⟩⟩ ++ chP s i ++ ⟨⟨[]⟩⟩).data.toList = t.data.toList ++ tAt ys i.toNat c := fun hc => by
      rw [bytes_app, bytes_app, bytes_app, hcl]
      unfold tAt
      rw [hc]
      simp only [List.append_nil]
      rfl
    by_cases hc0 : byteAt s i.toNat = 43
    · have ec := el 43 (by decide) hc0
      have sg : isSgn c = true := by rw [ec]; rfl
      have ua : (u ++ ⟨⟨[32, 111, 114, 32]⟩⟩).data.toList = u.data.toList ++ uAt c := by
        rw [bytes_app, ec]; rfl
      by_cases hy : i < ys.length
      · exact fin _ _ (tT (by omega) sg) ua fun tt uu q => plRound (fun _ => q) (rPl0T_ok n ys s t u i tt uu h0 h hs (by omega) (by omega) hc0 hy)
      · exact fin _ _ (tF (by omega) sg) ua fun tt uu q => plRound (fun _ => q) (rPl0F_ok n ys s t u i tt uu h0 h hs (by omega) (by omega) hc0 hy)
    by_cases hc1 : byteAt s i.toNat = 45
    · have ec := el 45 (by decide) hc1
      have sg : isSgn c = true := by rw [ec]; rfl
      have ua : (u ++ ⟨⟨[32, 109, 105, 110, 117, 115, 32]⟩⟩).data.toList = u.data.toList ++ uAt c := by
        rw [bytes_app, ec]; rfl
      by_cases hy : i < ys.length
      · exact fin _ _ (tT (by omega) sg) ua fun tt uu q => plRound (fun _ => q) (rPl1T_ok n ys s t u i tt uu h0 h hs (by omega) (by omega) hc1 hy)
      · exact fin _ _ (tF (by omega) sg) ua fun tt uu q => plRound (fun _ => q) (rPl1F_ok n ys s t u i tt uu h0 h hs (by omega) (by omega) hc1 hy)
    by_cases hc2 : byteAt s i.toNat = 38
    · have ec := el 38 (by decide) hc2
      have sg : isSgn c = true := by rw [ec]; rfl
      have ua : (u ++ ⟨⟨[32, 97, 110, 100, 32]⟩⟩).data.toList = u.data.toList ++ uAt c := by
        rw [bytes_app, ec]; rfl
      by_cases hy : i < ys.length
      · exact fin _ _ (tT (by omega) sg) ua fun tt uu q => plRound (fun _ => q) (rPl2T_ok n ys s t u i tt uu h0 h hs (by omega) (by omega) hc2 hy)
      · exact fin _ _ (tF (by omega) sg) ua fun tt uu q => plRound (fun _ => q) (rPl2F_ok n ys s t u i tt uu h0 h hs (by omega) (by omega) hc2 hy)
    by_cases hc3 : byteAt s i.toNat = 33
    · have ec := el 33 (by decide) hc3
      have sg : isSgn c = true := by rw [ec]; rfl
      have ua : (u ++ ⟨⟨[32, 110, 111, 116, 32]⟩⟩).data.toList = u.data.toList ++ uAt c := by
        rw [bytes_app, ec]; rfl
      by_cases hy : i < ys.length
      · exact fin _ _ (tT (by omega) sg) ua fun tt uu q => plRound (fun _ => q) (rPl3T_ok n ys s t u i tt uu h0 h hs (by omega) (by omega) hc3 hy)
      · exact fin _ _ (tF (by omega) sg) ua fun tt uu q => plRound (fun _ => q) (rPl3F_ok n ys s t u i tt uu h0 h hs (by omega) (by omega) hc3 hy)
    by_cases hc4 : byteAt s i.toNat = 40
    · have ec := el 40 (by decide) hc4
      have sg : isSgn c = true := by rw [ec]; rfl
      have ua : (u ++ chP s i).data.toList = u.data.toList ++ uAt c := by
        rw [bytes_app, hcl, ec]; rfl
      by_cases hy : i < ys.length
      · exact fin _ _ (tT (by omega) sg) ua fun tt uu q => plRound (fun _ => q) (rPl4T_ok n ys s t u i tt uu h0 h hs (by omega) (by omega) hc4 hy)
      · exact fin _ _ (tF (by omega) sg) ua fun tt uu q => plRound (fun _ => q) (rPl4F_ok n ys s t u i tt uu h0 h hs (by omega) (by omega) hc4 hy)
    by_cases hc5 : byteAt s i.toNat = 41
    · have ec := el 41 (by decide) hc5
      have sg : isSgn c = true := by rw [ec]; rfl
      have ua : (u ++ chP s i).data.toList = u.data.toList ++ uAt c := by
        rw [bytes_app, hcl, ec]; rfl
      by_cases hy : i < ys.length
      · exact fin _ _ (tT (by omega) sg) ua fun tt uu q => plRound (fun _ => q) (rPl5T_ok n ys s t u i tt uu h0 h hs (by omega) (by omega) hc5 hy)
      · exact fin _ _ (tF (by omega) sg) ua fun tt uu q => plRound (fun _ => q) (rPl5F_ok n ys s t u i tt uu h0 h hs (by omega) (by omega) hc5 hy)
    by_cases hc6 : byteAt s i.toNat = 44
    · have ec := el 44 (by decide) hc6
      have sg : isSgn c = true := by rw [ec]; rfl
      have ua : (u ++ chP s i).data.toList = u.data.toList ++ uAt c := by
        rw [bytes_app, hcl, ec]; rfl
      by_cases hy : i < ys.length
      · exact fin _ _ (tT (by omega) sg) ua fun tt uu q => plRound (fun _ => q) (rPl6T_ok n ys s t u i tt uu h0 h hs (by omega) (by omega) hc6 hy)
      · exact fin _ _ (tF (by omega) sg) ua fun tt uu q => plRound (fun _ => q) (rPl6F_ok n ys s t u i tt uu h0 h hs (by omega) (by omega) hc6 hy)
    have ne : ∀ d : Nat, d < 256 → byteAt s i.toNat ≠ d → c ≠ UInt8.ofNat d := fun d hd e g => e (by rw [← hn, g]; exact UInt8.toNat_ofNat_of_lt hd)
    have n0 : c ≠ 43 := ne 43 (by decide) hc0
    have n1 : c ≠ 45 := ne 45 (by decide) hc1
    have n2 : c ≠ 38 := ne 38 (by decide) hc2
    have n3 : c ≠ 33 := ne 33 (by decide) hc3
    have n4 : c ≠ 40 := ne 40 (by decide) hc4
    have n5 : c ≠ 41 := ne 41 (by decide) hc5
    have n6 : c ≠ 44 := ne 44 (by decide) hc6
    have sg : isSgn c = false := by
      unfold isSgn
      simp only [beq_eq_false_iff_ne.2 n0, beq_eq_false_iff_ne.2 n1, beq_eq_false_iff_ne.2 n2, beq_eq_false_iff_ne.2 n3, beq_eq_false_iff_ne.2 n4, beq_eq_false_iff_ne.2 n5, beq_eq_false_iff_ne.2 n6, Bool.or_self]
    have ua : (u ++ chP s i).data.toList = u.data.toList ++ uAt c := by
      rw [bytes_app, hcl]
      unfold uAt
      rw [if_neg n0, if_neg n1, if_neg n2, if_neg n3]
    exact fin _ _ (t7 sg) ua fun tt uu q => plRound (fun _ => q) (rPl7_ok n ys s t u i tt uu h0 h hs (by omega) (by omega) ⟨hc0, hc1, hc2, hc3, hc4, hc5, hc6⟩)
  · exact done i t u h0 h
end
end Go.Proofs.YtpofhijgccocpaaDoor
end
section
namespace Go.Proofs.YtpofhijgccocpaaDoor
open Go.AS Go.TP
noncomputable section
theorem gBlL_ok (xs ys : List AV) (s : ByteArray) : gBlL (Orc.f (Orc.f (Orc.t Orc.z))) xs ys s := by
 rw [gBlL_vc]; exact ⟨(), ⟨trivial, .refl _, rfl⟩, (), ⟨trivial, .refl _, rfl⟩, (), ⟨trivial, .refl _, rfl⟩, rfl, rfl, rfl, (), ⟨trivial, .refl _, rfl⟩, rfl⟩
theorem gBlB_ok (xs ys : List AV) (s : ByteArray) (k a : Int) : gBlB (Orc.f (Orc.f (Orc.t Orc.z))) xs ys s k a := by
 rw [gBlB_vc]; exact ⟨(), ⟨trivial, .refl _, rfl⟩, (), ⟨trivial, .refl _, rfl⟩, (), ⟨trivial, .refl _, rfl⟩, rfl, rfl, rfl, (), ⟨trivial, .refl _, rfl⟩, rfl⟩
theorem gBlTT_ok (xs : List AV) (ys : List Int) (s p tt uu : ByteArray) (n m1 m2 : Nd) (h1 : tt.size ≤ 600) (h2 : uu.size ≤ 600) : gBlTT ogBlTT xs ys s p tt uu n m1 m2 := by
 rw [gBlTT_vc]; exact ⟨(), ⟨trivial, .refl _, rfl⟩, (), ⟨trivial, .refl _, rfl⟩, (), ⟨trivial, .refl _, rfl⟩, rfl, rfl, rfl, (), ⟨trivial, .refl _, rfl⟩, (), ⟨trivial, .refl _, rfl⟩, decide_eq_true (by omega), (), ⟨trivial, .refl _, rfl⟩, rfl, rfl, rfl, (), ⟨trivial, .refl _, rfl⟩, rfl, rfl, decide_eq_true (by omega), (), ⟨trivial, .refl _, rfl⟩, rfl, rfl, rfl, (), ⟨trivial, .refl _, rfl⟩, rfl, rfl, rfl⟩
theorem gBlTF_ok (xs : List AV) (ys : List Int) (s p tt uu : ByteArray) (n m1 : Nd) (h1 : tt.size ≤ 600) (h2 : ¬ uu.size ≤ 600) : gBlTF ogBlTF xs ys s p tt uu n m1 := by
 rw [gBlTF_vc]; exact ⟨(), ⟨trivial, .refl _, rfl⟩, (), ⟨trivial, .refl _, rfl⟩, (), ⟨trivial, .refl _, rfl⟩, rfl, rfl, rfl, (), ⟨trivial, .refl _, rfl⟩, (), ⟨trivial, .refl _, rfl⟩, decide_eq_true (by omega), (), ⟨trivial, .refl _, rfl⟩, rfl, rfl, rfl, (), ⟨trivial, .refl _, rfl⟩, rfl, rfl, decide_eq_false (by omega), rfl⟩
theorem gBlFT_ok (xs : List AV) (ys : List Int) (s p tt uu : ByteArray) (n m2 : Nd) (h1 : ¬ tt.size ≤ 600) (h2 : uu.size ≤ 600) : gBlFT ogBlFT xs ys s p tt uu n m2 := by
 rw [gBlFT_vc]; exact ⟨(), ⟨trivial, .refl _, rfl⟩, (), ⟨trivial, .refl _, rfl⟩, (), ⟨trivial, .refl _, rfl⟩, rfl, rfl, rfl, (), ⟨trivial, .refl _, rfl⟩, (), ⟨trivial, .refl _, rfl⟩, decide_eq_false (by omega), decide_eq_true (by omega), (), ⟨trivial, .refl _, rfl⟩, rfl, rfl, rfl, (), ⟨trivial, .refl _, rfl⟩, rfl, rfl, rfl⟩
theorem gBlFF_ok (xs : List AV) (ys : List Int) (s p tt uu : ByteArray) (n : Nd) (h1 : ¬ tt.size ≤ 600) (h2 : ¬ uu.size ≤ 600) : gBlFF ogBlFF xs ys s p tt uu n := by
 rw [gBlFF_vc]; exact ⟨(), ⟨trivial, .refl _, rfl⟩, (), ⟨trivial, .refl _, rfl⟩, (), ⟨trivial, .refl _, rfl⟩, rfl, rfl, rfl, (), ⟨trivial, .refl _, rfl⟩, (), ⟨trivial, .refl _, rfl⟩, decide_eq_false (by omega), decide_eq_false (by omega), rfl⟩
def LawGoalBl (xs ys : List AV) : Prop := ∃ X os, X.Sound ∧ X.px = X0 ∧ lawW X 12 fPbl (fn fPbl) (code fPbl) os [.lst false 1 xs, .lst false 1 ys]
theorem bytes_ext {a b : ByteArray} (h : a.data.toList = b.data.toList) : a = b := ByteArray.ext (Array.toList_inj.1 h)
attribute [local irreducible] runF runL lawW
set_option maxRecDepth 100000 in
theorem law_goalBl (xs ys : List Int) (hx : okXs xs) : LawGoalBl (xs.map i0) (ys.map i0) := by
 obtain ⟨s, hs, ht⟩ := text_ok xs hx
 have hp := parse_ok s
 cases hq : parseS s with
 | long =>
  rw [hq] at hp
  exact ⟨_, _, (((XB_ok.add (val1e ht)).add (val1e hp)).add (val1e known18_ok)).ask [fPbl], rfl, gBlL_ok (xs.map i0) (ys.map i0) s⟩
 | bad k a =>
  rw [hq] at hp
  exact ⟨_, _, (((XB_ok.add (val1e ht)).add (val1e hp)).add (val1e known18_ok)).ask [fPbl], rfl, gBlB_ok (xs.map i0) (ys.map i0) s k a⟩
 | ok n =>
  rw [hq] at hp
  have hp : F fParse [s0 s] (.tup [encP n, nilE]) := hp
  obtain ⟨hr, hf, hd, hl, h6⟩ := parse_bd hq
  have hpr := print_ok n hr hf (by omega)
  obtain ⟨tt, uu, hB, ht2, hu2⟩ := plL n ys (textS n) (by omega) (textS n).size 0 ByteArray.empty ByteArray.empty (Int.le_refl _) (by omega) (by omega) (by decide) (by decide)
  rw [show (0 : Int).toNat = 0 from rfl, List.drop_zero] at ht2 hu2
  obtain ⟨ps, e1, e2⟩ := t_exs ys (toksS n) (wf_right n hr) 0
  obtain ⟨qs, e3, e4⟩ := u_exs (toksS n) (wf_right n hr)
  have et : tt = catP ps := bytes_ext (by rw [ht2, e2]; rfl)
  have eu : uu = catP qs := bytes_ext (by rw [hu2, e4]; rfl)
  have one : ∀ q : ByteArray, ∀ zs : List Pc, q = catP zs → Exs (toksS n) zs → q.size ≤ 600 → ∃ m, F fParse [s0 q] (.tup [encP m, nilE]) ∧ F fSame [encP n, encP m] (b0 true) := fun q zs hq he hz => by
   rw [hq] at hz ⊢
   obtain ⟨m, hm, hsame⟩ := parse_pieces hr hd he hz
   obtain ⟨hr2, _, _, _, _⟩ := parse_bd hm
   have hp2 := parse_ok (catP zs)
   rw [hm] at hp2
   have h3 : F fSame [encP n, encP m] (b0 (sameS n m)) := same_ok n m hr hr2
   rw [hsame] at h3
   exact ⟨m, hp2, h3⟩
  have base : ∀ c : Con, ConOk Tryd.prog gl0 fParse c → (XBl3 (xsA xs) ys s (textS n) tt uu n c).Sound := fun c hc =>
   ((((XB_ok.add (val1e ht)).add (val1e known18_ok)).add (val1e hpr)).add hc).addLp (fnOk fPbl (by kernel_rfl)) (show (fn fPbl).body = some (code fPbl) by kernel_rfl) (by kernel_rfl)
    (Spl.ok (L := lpPl True n ys (textS n) ByteArray.empty ByteArray.empty 0 tt uu) (l := [⟨Unit, fun _ => True, fun _ => plArgs ys (textS n) ByteArray.empty ByteArray.empty 0, fun _ => nHp n, fun _ => plOut n tt uu⟩]) rfl (show ([5, 1, 7, 8, 9, 10] : List Nat).Nodup by decide) fun s' hs' i _ => by obtain rfl := List.mem_singleton.1 hs'; exact hB)
  have full : ∀ (q1 q2 : ByteArray) (m1 m2 : Nd), F fParse [s0 q1] (.tup [encP m1, nilE]) → F fSame [encP n, encP m1] (b0 true) → F fParse [s0 q2] (.tup [encP m2, nilE]) → F fSame [encP n, encP m2] (b0 true) → (XBl2 (xsA xs) ys s (textS n) tt uu q1 q2 n m1 m2).Sound := fun q1 q2 m1 m2 h1 h2 h3 h4 =>
   (base _ (conOk3 (s := sp1e [s0 s] (.tup [encP n, nilE])) (t := sp1e [s0 q1] (.tup [encP m1, nilE])) (u := sp1e [s0 q2] (.tup [encP m2, nilE])) (fun _ _ => hp) (fun _ _ => h1) (fun _ _ => h3))).add (conOk2 (s := sp1e [encP n, encP m1] (b0 true)) (t := sp1e [encP n, encP m2] (b0 true)) (fun _ _ => h2) (fun _ _ => h4))
  by_cases c1 : tt.size ≤ 600
  · obtain ⟨m1, g1, g2⟩ := one tt ps et e1 c1
    by_cases c2 : uu.size ≤ 600
    · obtain ⟨m2, g3, g4⟩ := one uu qs eu e3 c2
      exact ⟨_, _, (full tt uu m1 m2 g1 g2 g3 g4).ask [fPbl], rfl, gBlTT_ok (xs.map i0) ys s (textS n) tt uu n m1 m2 c1 c2⟩
    · exact ⟨_, _, (full tt tt m1 m1 g1 g2 g1 g2).ask [fPbl], rfl, gBlTF_ok (xs.map i0) ys s (textS n) tt uu n m1 c1 c2⟩
  · by_cases c2 : uu.size ≤ 600
    · obtain ⟨m2, g3, g4⟩ := one uu qs eu e3 c2
      exact ⟨_, _, (full uu uu m2 m2 g3 g4 g3 g4).ask [fPbl], rfl, gBlFT_ok (xs.map i0) ys s (textS n) tt uu n m2 c1 c2⟩
    · exact ⟨_, _, (base _ (val1e hp)).ask [fPbl], rfl, gBlFF_ok (xs.map i0) ys s (textS n) tt uu n c1 c2⟩
set_option maxRecDepth 100000 in
theorem law_runBl {l : List (String × DataW Unit)} {W : World} (h : laidMet Tryd.prog l W) (m1 : ("strconv.ErrSyntax", dErr eSyn.data.toList) ∈ l) (m2 : ("strconv.ErrRange", dErr eRan.data.toList) ∈ l)
  (m3 : ("internal/strconv.uint64pow10", (Lib.tabData .u64 powL : DataW Unit)) ∈ l) {xs ys : List Int} (hx : okXs xs) {v u : Value} (hv : VR ⟨fun _ => none, fun b => W.heap[b]?⟩ (.lst false 1 (xs.map i0)) v) (hu : VR ⟨fun _ => none, fun b => W.heap[b]?⟩ (.lst false 1 (ys.map i0)) u) :
  Calls Tryd.prog fPbl #[v, u] W fun e W' => e = .returned (.bool true) ∧ W'.os = W.os ∧ W'.tape = W.tape ∧ W'.output = W.output ∧ W.heap.size ≤ W'.heap.size ∧ ∀ b, b < W.heap.size → W'.heap[b]? = W.heap[b]? := by
 obtain ⟨X, os, hX, hp, hg⟩ := law_goalBl xs ys hx
 have hP : X.px.P = Tryd.prog := by rw [hp]; rfl
 have hgl : X.px.gl = gl0 := by rw [hp]; rfl
 have := law_calls hX (d := 12) (f := fPbl) (fn := fn fPbl) (code := code fPbl) (by rw [hP]; exact fnOk fPbl (by kernel_rfl)) (show (fn fPbl).body = some (code fPbl) by kernel_rfl) (by kernel_rfl) hg (m := fun b => W.heap[b]?) (w := W) (fun b o h => h) (by rw [hgl]; exact gl0_of h m1 m2 m3) (vals := [v, u]) (.vcons hv (.vcons hu .vnil))
 rw [hP] at this
 exact this
end
end Go.Proofs.YtpofhijgccocpaaDoor
end
