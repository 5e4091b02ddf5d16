/- Parts of the proof of ParseBlanks. -/
import Derived.Test.YtpofhijgccocpaaDoorGb
import Derived.Test.YtpofhijgccocpaaDoorGa
import Derived.Lib.ItoaNum
import Derived.Test.YtpofhijgccocpaaDoorASvar
section
namespace Go.Proofs.YtpofhijgccocpaaDoor
open Go.AS Go.TP
noncomputable section
theorem wordedS_11 (s : ByteArray) : wordedS s ≠ 11 := by
 unfold wordedS
 by_cases h : s = bOr
 · rw [if_pos h]; decide
 rw [if_neg h]
 by_cases h : s = bAnd
 · rw [if_pos h]; decide
 rw [if_neg h]
 by_cases h : s = bNot
 · rw [if_pos h]; decide
 rw [if_neg h]
 by_cases h : s = bMinus
 · rw [if_pos h]; decide
 rw [if_neg h]; decide
theorem signC_11 (c : Nat) (s : ByteArray) : (signC c s).1 ≠ 11 := by
 unfold signC
 repeat' split
 all_goals decide
theorem oneS_11 (s : ByteArray) : (oneS s).1 ≠ 11 := by
 unfold oneS
 split
 · exact wordedS_11 _
 · exact signC_11 _ _
theorem okT_app : ∀ (ts : List Tk) (e : Tk), (∀ t ∈ ts, t.kind ≠ 11 ∧ t.text.size ≤ 600) → e.kind = 11 → e.text.size ≤ 600 → okT (ts ++ [e])
 | [], e, _, h1, h2 => ⟨h2, h1⟩
 | t :: ts, e, h, h1, h2 => by
  have ih := okT_app ts e (fun u hu => h u (List.mem_cons_of_mem _ hu)) h1 h2
  have ht := h t (List.mem_cons_self ..)
  show okT (t :: (ts ++ [e]))
  cases hc : ts ++ [e] with
  | nil => simp at hc
  | cons u r => rw [hc] at ih; exact ⟨ht.2, ht.1, ih⟩
theorem lexG_ok (s : ByteArray) (hs : s.size ≤ 600) : ∀ (f : Nat) (i : Int) (out ts : List Tk), (∀ t ∈ out, t.kind ≠ 11 ∧ t.text.size ≤ 600) → lexG s f i out = (none, ts) → ∀ t ∈ ts, t.kind ≠ 11 ∧ t.text.size ≤ 600 := by
 intro f
 induction f with
 | zero => intro i out ts h e; cases e; exact h
 | succ f ih =>
  intro i out ts h e
  rw [lexG] at e
  by_cases hi : i < s.size
  · rw [if_pos hi] at e
    by_cases hb : blankN (byteAt s i.toNat) = true
    · rw [if_pos hb] at e; exact ih _ _ _ h e
    · rw [if_neg hb] at e
      have e : (if (oneS (restS s i)).1 = 0 then (some i, []) else lexG s f (i + (oneS (restS s i)).2) (out ++ [tokAt s i])) = (none, ts) := e
      by_cases ho : (oneS (restS s i)).1 = 0
      · rw [if_pos ho] at e; cases e
      · rw [if_neg ho] at e
        refine ih _ _ _ (fun t ht => ?_) e
        rcases List.mem_append.1 ht with ht | ht
        · exact h t ht
        · obtain rfl := List.mem_singleton.1 ht
          refine ⟨oneS_11 _, ?_⟩
          show (s.extract _ _).size ≤ 600
          rw [ByteArray.size_extract]; omega
  · rw [if_neg hi] at e; cases e; exact h
theorem lexS_ok {s : ByteArray} {ts : List Tk} (h : lexS s = .ok ts) : okT ts := by
 unfold lexS at h
 by_cases hs : 600 < s.size
 · rw [if_pos hs] at h; cases h
 · rw [if_neg hs] at h
   have hg := lexG_ok s (by omega) s.size 0 []
   generalize lexG s s.size 0 [] = R at h hg
   obtain ⟨_ | j, us⟩ := R
   · cases h
     exact okT_app us _ (hg us (fun t ht => by cases ht) rfl) rfl (Nat.zero_le _)
   · cases h
theorem zero_wk : Wk (.agg [i0 0, i0 0, i0 0, s0 ByteArray.empty, .lit (.slice none 0 0)]) zeroV := .agg (.cons (.refl _) (.cons (.refl _) (.cons (.refl _) (.cons (.refl _) (.cons .nilS .nil)))))
theorem gParL_ok (s : ByteArray) : gParL (Orc.t Orc.z) s := by
 rw [gParL_vc]; exact ⟨(), ⟨trivial, .refl _, rfl⟩, rfl, .tup (.cons zero_wk (.refl _)), .rfl⟩
theorem gParB_ok (s : ByteArray) (i : Int) : gParB (Orc.t Orc.z) s i := by
 rw [gParB_vc]; exact ⟨(), ⟨trivial, .refl _, rfl⟩, rfl, .tup (.cons zero_wk (.refl _)), .rfl⟩
theorem gParE_ok (s : ByteArray) (ts ts' : List AV) (n : Nd) (k a : Int) : gParE (Orc.f (Orc.f (Orc.t Orc.z))) s ts ts' n k a := by
 rw [gParE_vc]; exact ⟨(), ⟨trivial, .refl _, rfl⟩, rfl, (), ⟨trivial, .refl _, rfl⟩, rfl, rfl, .tup (.cons zero_wk (.refl _)), .rfl⟩
theorem gParO_ok (s : ByteArray) (ts : List AV) (a : Int) (x : ByteArray) (r : List AV) (n : Nd) : gParO ogParO s ts a x r n := by
 rw [gParO_vc]; exact ⟨(), ⟨trivial, .refl _, rfl⟩, rfl, (), ⟨trivial, .refl _, rfl⟩, rfl, rfl, rfl, rfl, .refl _, .rfl⟩
theorem gParX_ok (s : ByteArray) (ts : List AV) (k a : Int) (x : ByteArray) (r : List AV) (n : Nd) (hk : k ≠ 11) : gParX ogParX s ts k a x r n := by
 rw [gParX_vc]; exact ⟨(), ⟨trivial, .refl _, rfl⟩, rfl, (), ⟨trivial, .refl _, rfl⟩, rfl, bne_iff_ne.2 hk, rfl, .tup (.cons zero_wk (.refl _)), .rfl⟩
attribute [local irreducible] runF in
set_option maxRecDepth 100000 in
theorem parFn {X : WX} (hX : X.Sound) (hp : X.px = X0T) {os : Orc} {s : ByteArray} {x : AV} (g : gPar X os s x) : F fParse [s0 s] x := by
 have hP : X.px.P = Tryd.prog := by rw [hp]; rfl
 have hg : X.px.gl = gl0 := by rw [hp]; rfl
 have := fn_ok (X := X.ask [fParse, fPExpect, fPNext, fPTake]) (d := 12) (hX.ask _) (f := fParse) (fn := fn fParse) (code := code fParse) (by show X.px.P.funcs[fParse]? = _; rw [hP]; exact fnOk fParse (by kernel_rfl)) (show (fn fParse).body = some (code fParse) by kernel_rfl) (by kernel_rfl) g
 show FOk Tryd.prog gl0 fParse _ _ _
 rw [← hg, ← hP]; exact this
theorem XL_ok {s : ByteArray} {x : AV} (h : F fLex [s0 s] x) : (XL s x).Sound := XT_ok.add (conOk1 (s := spLex s x) fun _ _ => h)
theorem XLP_ok {s : ByteArray} {ts ts' : List AV} {n e : AV} (h : F fLex [s0 s] (.tup [.lst false 3 ts, .lit .nilIface])) (h2 : FOk Tryd.prog gl0 fPExpr [pArg] (pHeap ts 0) (pOut ts' 0 n e)) : (XLP s ts ts' n e).Sound := (XL_ok h).add (conOk1 (s := spP ts ts' 0 n e) fun _ _ => h2)
set_option maxRecDepth 100000 in
theorem parO_ok {s : ByteArray} {ts : List Tk} (hl : F fLex [s0 s] (encLex (.ok ts))) {r : R} (hp : FOk Tryd.prog gl0 fPExpr [pArg] (pHeap (ts.map encT) 0) (pOut (r.ts.map encT) 0 (encP r.n) (encE r.e))) (hi : okT r.ts) : F fParse [s0 s] (encPar (parOf r)) := by
 obtain ⟨n, e, us⟩ := r
 cases e with
 | some ka => obtain ⟨k, a⟩ := ka; exact parFn (XLP_ok hl hp) rfl (gParE_ok s _ _ n k a)
 | none =>
  cases us with
  | nil => exact hi.elim
  | cons u us' =>
   obtain ⟨k, a, x⟩ := u
   by_cases hk : k = 11
   · subst hk
     exact parFn (XLP_ok hl hp) rfl (gParO_ok s _ a x (us'.map encT) n)
   · have e : parOf ⟨n, none, ⟨k, a, x⟩ :: us'⟩ = .bad 15 a := if_neg hk
     rw [e]
     exact parFn (XLP_ok hl hp) rfl (gParX_ok s _ k a x (us'.map encT) n hk)
set_option maxRecDepth 100000 in
theorem parse_ok (s : ByteArray) : F fParse [s0 s] (encPar (parseS s)) := by
 have hl := lex_ok s
 have ho := @lexS_ok s
 unfold parseS
 generalize lexS s = L at hl ho
 cases L with
 | long => exact parFn (XL_ok hl) rfl (gParL_ok s)
 | bad i => exact parFn (XL_ok hl) rfl (gParB_ok s i)
 | ok ts =>
  have hts := ho rfl
  exact parO_ok hl (PF_ok (5 * ts.length + 5) .expr 0 ts (Int.le_refl _) (by decide) hts (Nat.le_refl _)) (PF_inv (5 * ts.length + 5) .expr 0 ts hts).1
end
end Go.Proofs.YtpofhijgccocpaaDoor
end
section
namespace Go.TP
open Go.AS
mutual
def fineS : Nd → Prop
 | .mk _ _ _ t ks => t.size ≤ 600 ∧ fineL ks
def fineL : List Nd → Prop
 | [] => True
 | n :: r => fineS n ∧ fineL r
end
theorem fine_nil {k a n : Int} : fineS (.mk k a n ByteArray.empty []) := ⟨Nat.zero_le _, trivial⟩
theorem fine_zero : fineS .zero := fine_nil
theorem fine_one {k a n : Int} {t : ByteArray} {x : Nd} (ht : t.size ≤ 600) (h : fineS x) : fineS (.mk k a n t [x]) := ⟨ht, h, trivial⟩
theorem fine_two {k a n : Int} {x y : Nd} (h : fineS x) (g : fineS y) : fineS (.mk k a n ByteArray.empty [x, y]) := ⟨Nat.zero_le _, h, g, trivial⟩
theorem e0 : ByteArray.empty.size ≤ 600 := Nat.zero_le _
theorem head_size {ts : List Tk} (h : okT ts) : (headT ts).text.size ≤ 600 := by
 cases ts with
 | nil => exact h.elim
 | cons t r => exact okT_size h
theorem chain_fine {part : List Tk → R} (hp : ∀ ts, okT ts → Inv ts (part ts)) (hq : ∀ ts, okT ts → fineS (part ts).n) (km : Int → Int) : ∀ (n : Nat) (r : R), okT r.ts → fineS r.n → fineS (chainS part km n r).n
 | 0, r, _, h => by rw [chainS]; exact h
 | n + 1, r, h, hn => by
  rw [chainS]
  split
  · have h1 := takeT_ok h
    exact chain_fine hp hq km n ⟨.mk (km (headT r.ts).kind) (headT r.ts).at_ 0 ByteArray.empty [r.n, (part (takeT r.ts)).n], (part (takeT r.ts)).e, (part (takeT r.ts)).ts⟩ (hp _ h1.1).1 (fine_two hn (hq _ h1.1))
  · exact hn
theorem within_fine {d : Int} {t : Tk} {n0 : Nd} {us : List Tk} {f : Int → List Tk → R} (h : fineS n0) (hf : fineS (f (d + 1) us).n) : fineS (withinS d t n0 us f).n := by
 unfold withinS
 split
 · exact h
 · exact hf
theorem PF_fine : ∀ (f : Nat) (lv : Lv) (d : Int) (ts : List Tk), okT ts → fineS (PF f lv d ts).n
 | 0, _, _, ts, h => by rw [PF]; exact fine_zero
 | f + 1, .expr, d, ts, h => by
  rw [PF]
  exact chain_fine (fun us hu => PF_inv f .term d us hu) (fun us hu => PF_fine f .term d us hu) kmE f _ (PF_inv f .term d ts h).1 (PF_fine f .term d ts h)
 | f + 1, .term, d, ts, h => by
  rw [PF]
  exact chain_fine (fun us hu => PF_inv f .part d us hu) (fun us hu => PF_fine f .part d us hu) kmT f _ (PF_inv f .part d ts h).1 (PF_fine f .part d ts h)
 | f + 1, .part, d, ts, h => by
  rw [PF]
  simp only
  split
  · exact PF_fine f .ranged d ts h
  · exact within_fine fine_nil (fine_one e0 (PF_fine f .part (d + 1) _ (takeT_ok h).1))
 | f + 1, .ranged, d, ts, h => by
  rw [PF]
  simp only
  have h1 := takeT_ok h
  split
  · exact within_fine fine_nil (fine_one e0 (PF_fine f .atom (d + 1) _ h1.1))
  · have h2 := PF_fine f .atom d ts h
    have i2 := PF_inv f .atom d ts h
    have second : ∀ (d : Int) (us : List Tk) (k a : Int) (n : Nd) (m : Bool), okT us → fineS n → fineS (secondS (PF f .atom d) k a n m us).n := fun d us k a n m hu hn => by
      unfold secondS
      split
      · exact fine_one e0 hn
      · exact fine_two hn (PF_fine f .atom d us hu)
    have h3 := takeT_ok i2.1
    split
    · exact h2
    · split
      · exact within_fine (fine_one e0 h2) (second _ _ _ _ _ _ h3.1 h2)
      · split
        · exact second _ _ _ _ _ _ h3.1 h2
        · exact h2
 | f + 1, .atom, d, ts, h => by
  rw [PF]
  simp only
  have hs := head_size h
  have h1 := takeT_ok h
  have h3 := takeT_ok h1.1
  split
  · refine within_fine fine_zero ?_
    have h2 := PF_fine f .expr (d + 1) _ h1.1
    split
    · exact h2
    · exact h2
  · split
    · split
      · unfold callS
        simp only
        split
        · exact fine_zero
        · refine within_fine fine_zero ?_
          split
          · exact ⟨hs, trivial⟩
          · have h2 := PF_fine f .expr (d + 1) _ h3.1
            split
            · exact fine_one hs h2
            · split
              · exact fine_one hs h2
              · split
                · exact fine_one hs h2
                · split
                  · exact fine_one hs h2
                  · exact fine_one hs h2
      · split
        · exact ⟨hs, trivial⟩
        · exact fine_zero
    · exact fine_zero
end Go.TP
end
section
namespace Go.Proofs.YtpofhijgccocpaaDoor
open Go.AS Go.TP
noncomputable section
abbrev ndV (k a m : Int) (t : ByteArray) (ks : List AV) : AV := .agg [i0 k, i0 a, i0 m, s0 t, .lst false 5 ks]
def spFormR : Sp := .pure ByteArray (fun _ => True) (fun w => [s0 w]) (fun w => i0 (formS w))
def spPreR : Sp := .pure ByteArray (fun w => w.size ≤ 1000000) (fun w => [s0 w]) (fun w => b0 (isPrefixS w))
noncomputable def XR0 : WX := (XB.add fForm (Sp.con [spFormR])).add fIsPrefix (Sp.con [spPreR])
def gKids (os : Orc) (k a m : Int) (t : ByteArray) (ks : List AV) (r : Int) : Prop := gF XR0 [fKids] fKids os [ndV k a m t ks] (i0 r)
def gNamed (os : Orc) (k a m : Int) (t : ByteArray) (ks : List AV) (r : Bool) : Prop := gF XR0 [fNamed] fNamed os [ndV k a m t ks] (b0 r)
structure NV where
 k : Int
 a : Int
 m : Int
 t : ByteArray
 ks : List AV
def spKidsR : Sp := .pure NV (fun _ => True) (fun v => [ndV v.k v.a v.m v.t v.ks]) (fun v => i0 (kidsN v.k v.t))
def spNamedR : Sp := .pure NV (fun v => v.t.size ≤ 1000000) (fun v => [ndV v.k v.a v.m v.t v.ks]) (fun v => b0 (namedS v.k v.m v.t))
noncomputable def XR1 : WX := (XR0.add fKids (Sp.con [spKidsR])).add fNamed (Sp.con [spNamedR])
def spRight (P : Nd → Prop) : Sp := .pure Nd (fun n => P n) (fun n => [encP n]) (fun n => b0 (rightS n))
def gRi (X : WX) (os : Orc) (k a m : Int) (t : ByteArray) (ks : List AV) (r : Bool) : Prop := gF X [fRight, fRight1, fContains, fIndexF] fRight os [ndV k a m t ks] (b0 r)
def gRiA (os : Orc) (k a m : Int) (t : ByteArray) (ks : List AV) : Prop := gRi XR1 os k a m t ks false
def gRiB (os : Orc) (k a m : Int) (t : ByteArray) (ks : List AV) : Prop := gRi XR1 os k a m t ks false
def gRiC (os : Orc) (k a m : Int) (t : ByteArray) (ks : List AV) : Prop := gRi XR1 os k a m t ks false
def gRi0 (os : Orc) (k a m : Int) (t : ByteArray) : Prop := gRi XR1 os k a m t [] true
def gRi1 (os : Orc) (P : Nd → Prop) (k a m : Int) (t : ByteArray) (x : Nd) (b : Bool) : Prop := gRi (XR1.add fRight (Sp.con [spRight P])) os k a m t [encP x] b
def gRi2 (os : Orc) (P : Nd → Prop) (k a m : Int) (t : ByteArray) (x y : Nd) (b : Bool) : Prop := gRi (XR1.add fRight (Sp.con [spRight P])) os k a m t [encP x, encP y] b
def spSame (P : Nd → Nd → Prop) : Sp := .pure (Nd × Nd) (fun n => P n.1 n.2) (fun n => [encP n.1, encP n.2]) (fun n => b0 (sameS n.1 n.2))
def gSa (X : WX) (os : Orc) (k a m : Int) (t : ByteArray) (ks : List AV) (k2 a2 m2 : Int) (t2 : ByteArray) (ks2 : List AV) (r : Bool) : Prop := gF X [fSame, fEqualF] fSame os [ndV k a m t ks, ndV k2 a2 m2 t2 ks2] (b0 r)
def gSaK (os : Orc) (k a m : Int) (t : ByteArray) (ks : List AV) (k2 a2 m2 : Int) (t2 : ByteArray) (ks2 : List AV) : Prop := gSa XB os k a m t ks k2 a2 m2 t2 ks2 false
def gSaM (os : Orc) (k a m : Int) (t : ByteArray) (ks : List AV) (k2 a2 m2 : Int) (t2 : ByteArray) (ks2 : List AV) : Prop := gSa XB os k a m t ks k2 a2 m2 t2 ks2 false
def gSaT (os : Orc) (k a m : Int) (t : ByteArray) (ks : List AV) (k2 a2 m2 : Int) (t2 : ByteArray) (ks2 : List AV) : Prop := gSa XB os k a m t ks k2 a2 m2 t2 ks2 false
def gSaL (os : Orc) (k a m : Int) (t : ByteArray) (ks : List AV) (k2 a2 m2 : Int) (t2 : ByteArray) (ks2 : List AV) : Prop := gSa XB os k a m t ks k2 a2 m2 t2 ks2 false
def gSa0 (os : Orc) (k a m : Int) (t : ByteArray) (k2 a2 m2 : Int) (t2 : ByteArray) (r : Bool) : Prop := gSa XB os k a m t [] k2 a2 m2 t2 [] r
def gSa1 (os : Orc) (P : Nd → Nd → Prop) (k a m : Int) (t : ByteArray) (k2 a2 m2 : Int) (t2 : ByteArray) (x x2 : Nd) (r : Bool) : Prop := gSa (XB.add fSame (Sp.con [spSame P])) os k a m t [encP x] k2 a2 m2 t2 [encP x2] r
def gSa2 (os : Orc) (P : Nd → Nd → Prop) (k a m : Int) (t : ByteArray) (k2 a2 m2 : Int) (t2 : ByteArray) (x y x2 y2 : Nd) (r : Bool) : Prop := gSa (XB.add fSame (Sp.con [spSame P])) os k a m t [encP x, encP y] k2 a2 m2 t2 [encP x2, encP y2] r
end
end Go.Proofs.YtpofhijgccocpaaDoor
end
section
namespace Go.Proofs.YtpofhijgccocpaaDoor
open Go Go.AS Go.TP
def ogKids : Orc := Orc.s (Orc.t Orc.z) (Orc.s (Orc.t Orc.z) (Orc.s (Orc.t Orc.z) (Orc.s (Orc.t Orc.z) (Orc.s Orc.z (Orc.s (Orc.t Orc.z) (Orc.s (Orc.t Orc.z) (Orc.s Orc.z (Orc.s Orc.z (Orc.s Orc.z Orc.z)))))))))
theorem gKids_vc (k a m : Int) (t : ByteArray) (ks : List AV) (r : Int) : gKids ogKids k a m t ks r = (let z1 := (i0 (2 : Int)); ((k == (2 : Int)) = true → Yt (Wk z1 (i0 r) ∧ SameH (hpL []) (hpL []))) ∧ ((k == (2 : Int)) = false → ((k == (3 : Int)) = true → Yt (Wk z1 (i0 r) ∧ SameH (hpL []) (hpL []))) ∧ ((k == (3 : Int)) = false → ((k == (4 : Int)) = true → Yt (Wk z1 (i0 r) ∧ SameH (hpL []) (hpL []))) ∧ ((k == (4 : Int)) = false → ((k == (8 : Int)) = true → Yt (Wk z1 (i0 r) ∧ SameH (hpL []) (hpL []))) ∧ ((k == (8 : Int)) = false → ((k == (9 : Int)) = true → Wk z1 (i0 r) ∧ SameH (hpL []) (hpL [])) ∧ ((k == (9 : Int)) = false → ((k == (5 : Int)) = true → Yt (Wk (i0 (1 : Int)) (i0 r) ∧ SameH (hpL []) (hpL []))) ∧ ((k == (5 : Int)) = false → ((k == (6 : Int)) = true → Yt (Wk (i0 (1 : Int)) (i0 r) ∧ SameH (hpL []) (hpL []))) ∧ ((k == (6 : Int)) = false → ((k == (7 : Int)) = true → Wk (i0 (1 : Int)) (i0 r) ∧ SameH (hpL []) (hpL [])) ∧ ((k == (7 : Int)) = false → ((k == (1 : Int)) = true → Wk (i0 (0 : Int)) (i0 r) ∧ SameH (hpL []) (hpL [])) ∧ ((k == (1 : Int)) = false → ((k == (10 : Int)) = true → ∃ (i1 : ByteArray), (True ∧ Wks [s0 t] [s0 i1] ∧ hpL [] = hpL []) ∧ inR IntKind.i64 (formS i1 - (1 : Int)) = true ∧ Wk (i0 (if (1 : Int) < formS i1 - (1 : Int) then (1 : Int) else formS i1 - (1 : Int))) (i0 r) ∧ SameH (hpL []) (hpL [])) ∧ ((k == (10 : Int)) = false → Wk (i0 (-1 : Int)) (i0 r) ∧ SameH (hpL []) (hpL [])))))))))))) := by kernel_rfl
def ogNamed : Orc := Orc.s (Orc.s (Orc.t (Orc.t Orc.z)) (Orc.f (Orc.f Orc.z))) (Orc.s (Orc.s (HT (Orc.t (Orc.t (Orc.t Orc.z)))) (HF (Orc.s (Orc.t (Orc.t (Orc.f (Orc.f (Orc.s (Orc.t (Orc.t (Orc.f Orc.z))) (Orc.f (Orc.f (Orc.f Orc.z)))))))) (HF (Orc.f (Orc.f (Orc.f (Orc.f Orc.z)))))))) (Orc.s (Orc.t (Orc.t Orc.z)) (Orc.f (Orc.f Orc.z))))
theorem gNamed_vc (k a m : Int) (t : ByteArray) (ks : List AV) (r : Bool) : gNamed ogNamed k a m t ks r = (let z1 := (m == (0 : Int)); ((k == (1 : Int)) = true → ∃ (i1 : ByteArray), (ByteArray.size i1 ≤ 1000000 ∧ Wks [s0 t] [s0 i1] ∧ hpL [] = hpL []) ∧ (isPrefixS i1 = true → Yt (Yt (Wk (b0 z1) (b0 r) ∧ SameH (hpL []) (hpL [])))) ∧ (isPrefixS i1 = false → Nf (Nf (Wk (b0 false) (b0 r) ∧ SameH (hpL []) (hpL []))))) ∧ ((k == (1 : Int)) = false → ((k == (10 : Int)) = true → (z1 = true → Yt4 (Yt (Yt (Yt (Wk (b0 true) (b0 r) ∧ SameH (hpL []) (hpL [])))))) ∧ (z1 = false → Nf (Nf (∃ (i2 : ByteArray), (True ∧ Wks [s0 t] [s0 i2] ∧ hpL [] = hpL []) ∧ Nf (Nf (((formS i2 == (3 : Int)) = true → Yt (Yt (Nf (Nf ((decide (m > (0 : Int)) = true → Yt (Yt (Nf (Wk (b0 (decide (m ≤ (999999 : Int)))) (b0 r) ∧ SameH (hpL []) (hpL []))))) ∧ (decide (m > (0 : Int)) = false → Nf (Nf (Nf (Wk (b0 false) (b0 r) ∧ SameH (hpL []) (hpL [])))))))))) ∧ ((formS i2 == (3 : Int)) = false → Nf4 (Nf4 (Wk (b0 false) (b0 r) ∧ SameH (hpL []) (hpL [])))))))))) ∧ ((k == (10 : Int)) = false → ((ByteArray.toList t == ByteArray.toList ⟨⟨[]⟩⟩) = true → Yt (Yt (Wk (b0 z1) (b0 r) ∧ SameH (hpL []) (hpL [])))) ∧ ((ByteArray.toList t == ByteArray.toList ⟨⟨[]⟩⟩) = false → Nf (Nf (Wk (b0 false) (b0 r) ∧ SameH (hpL []) (hpL []))))))) := by kernel_rfl
def ogRiA : Orc := HT (HT (Orc.t Orc.z))
theorem gRiA_vc (k a m : Int) (t : ByteArray) (ks : List AV) : gRiA ogRiA k a m t ks = (∃ (i1 : NV), (True ∧ Wks [AV.agg [i0 k, i0 a, i0 m, s0 t, AV.lst false 5 ks]] [AV.agg [i0 (NV.k i1), i0 (NV.a i1), i0 (NV.m i1), s0 (NV.t i1), AV.lst false 5 (NV.ks i1)]] ∧ hpL [] = hpL []) ∧ decide (kidsN (NV.k i1) (NV.t i1) < (0 : Int)) = true ∧ Yt4 (Yt4 (Wk (b0 false) (b0 false) ∧ SameH (hpL []) (hpL [])))) := by kernel_rfl
def ogRiB : Orc := HF (Orc.f (Orc.t (Orc.t (Orc.t (Orc.t Orc.z)))))
theorem gRiB_vc (k a m : Int) (t : ByteArray) (ks : List AV) : gRiB ogRiB k a m t ks = (∃ (i1 : NV), (True ∧ Wks [AV.agg [i0 k, i0 a, i0 m, s0 t, AV.lst false 5 ks]] [AV.agg [i0 (NV.k i1), i0 (NV.a i1), i0 (NV.m i1), s0 (NV.t i1), AV.lst false 5 (NV.ks i1)]] ∧ hpL [] = hpL []) ∧ decide (kidsN (NV.k i1) (NV.t i1) < (0 : Int)) = false ∧ Nf4 ((kidsN (NV.k i1) (NV.t i1) != (↑(List.length ks) : Int)) = true ∧ Yt (Yt (Yt (Wk (b0 false) (b0 false) ∧ SameH (hpL []) (hpL [])))))) := by kernel_rfl
def ogRiC : Orc := HF (HF (Orc.t Orc.z))
theorem gRiC_vc (k a m : Int) (t : ByteArray) (ks : List AV) : gRiC ogRiC k a m t ks = (let z1 := [AV.agg [i0 k, i0 a, i0 m, s0 t, AV.lst false 5 ks]]; ∃ (i1 : NV), (True ∧ Wks z1 [AV.agg [i0 (NV.k i1), i0 (NV.a i1), i0 (NV.m i1), s0 (NV.t i1), AV.lst false 5 (NV.ks i1)]] ∧ hpL [] = hpL []) ∧ decide (kidsN (NV.k i1) (NV.t i1) < (0 : Int)) = false ∧ Nf4 ((kidsN (NV.k i1) (NV.t i1) != (↑(List.length ks) : Int)) = false ∧ Nf (∃ (i2 : NV), (ByteArray.size (NV.t i2) ≤ 1000000 ∧ Wks z1 [AV.agg [i0 (NV.k i2), i0 (NV.a i2), i0 (NV.m i2), s0 (NV.t i2), AV.lst false 5 (NV.ks i2)]] ∧ hpL [] = hpL []) ∧ Nf ((!namedS (NV.k i2) (NV.m i2) (NV.t i2)) = true ∧ Wk (b0 false) (b0 false) ∧ SameH (hpL []) (hpL []))))) := by kernel_rfl
def ogRi0 : Orc := HF (HF (Orc.f (Orc.f Orc.z)))
theorem gRi0_vc (k a m : Int) (t : ByteArray) : gRi0 ogRi0 k a m t = (let z1 := [AV.agg [i0 k, i0 a, i0 m, s0 t, AV.lst false 5 []]]; ∃ (i1 : NV), (True ∧ Wks z1 [AV.agg [i0 (NV.k i1), i0 (NV.a i1), i0 (NV.m i1), s0 (NV.t i1), AV.lst false 5 (NV.ks i1)]] ∧ hpL [] = hpL []) ∧ decide (kidsN (NV.k i1) (NV.t i1) < (0 : Int)) = false ∧ Nf4 ((kidsN (NV.k i1) (NV.t i1) != (0 : Int)) = false ∧ Nf (∃ (i2 : NV), (ByteArray.size (NV.t i2) ≤ 1000000 ∧ Wks z1 [AV.agg [i0 (NV.k i2), i0 (NV.a i2), i0 (NV.m i2), s0 (NV.t i2), AV.lst false 5 (NV.ks i2)]] ∧ hpL [] = hpL []) ∧ Nf ((!namedS (NV.k i2) (NV.m i2) (NV.t i2)) = false ∧ Nf (Wk (b0 true) (b0 true) ∧ SameH (hpL []) (hpL [])))))) := by kernel_rfl
def ogRi1 : Orc := HF (HF (Orc.f (Orc.t (Orc.s Orc.z (Orc.f Orc.z)))))
theorem gRi1_vc (P : Nd → Prop) (k a m : Int) (t : ByteArray) (x : Nd) (b : Bool) : gRi1 ogRi1 P k a m t x b = (let z1 := [AV.agg [i0 k, i0 a, i0 m, s0 t, AV.lst false 5 [encP x]]]; let z2 := (↑(List.length [encP x]) : Int); ∃ (i1 : NV), (True ∧ Wks z1 [AV.agg [i0 (NV.k i1), i0 (NV.a i1), i0 (NV.m i1), s0 (NV.t i1), AV.lst false 5 (NV.ks i1)]] ∧ hpL [] = hpL []) ∧ decide (kidsN (NV.k i1) (NV.t i1) < (0 : Int)) = false ∧ Nf4 ((kidsN (NV.k i1) (NV.t i1) != z2) = false ∧ Nf (∃ (i2 : NV), (ByteArray.size (NV.t i2) ≤ 1000000 ∧ Wks z1 [AV.agg [i0 (NV.k i2), i0 (NV.a i2), i0 (NV.m i2), s0 (NV.t i2), AV.lst false 5 (NV.ks i2)]] ∧ hpL [] = hpL []) ∧ Nf ((!namedS (NV.k i2) (NV.m i2) (NV.t i2)) = false ∧ decide ((0 : Int) < z2) = true ∧ ∃ (i3 : Nd), (P i3 ∧ Wks [encP x] [encP i3] ∧ hpL [] = hpL []) ∧ ((!rightS i3) = true → Wk (b0 false) (b0 b) ∧ SameH (hpL []) (hpL [])) ∧ ((!rightS i3) = false → Yt (decide ((1 : Int) < z2) = false ∧ Wk (b0 true) (b0 b) ∧ SameH (hpL []) (hpL []))))))) := by kernel_rfl
def ogRi2 : Orc := HF (HF (Orc.f (Orc.t (Orc.s Orc.z (Orc.t (Orc.s Orc.z (Orc.f Orc.z)))))))
theorem gRi2_vc (P : Nd → Prop) (k a m : Int) (t : ByteArray) (x y : Nd) (b : Bool) : gRi2 ogRi2 P k a m t x y b = (let z1 := (↑(List.length [encP x, encP y]) : Int); let z2 := [AV.agg [i0 k, i0 a, i0 m, s0 t, AV.lst false 5 [encP x, encP y]]]; ∃ (i1 : NV), (True ∧ Wks z2 [AV.agg [i0 (NV.k i1), i0 (NV.a i1), i0 (NV.m i1), s0 (NV.t i1), AV.lst false 5 (NV.ks i1)]] ∧ hpL [] = hpL []) ∧ decide (kidsN (NV.k i1) (NV.t i1) < (0 : Int)) = false ∧ Nf4 ((kidsN (NV.k i1) (NV.t i1) != z1) = false ∧ Nf (∃ (i2 : NV), (ByteArray.size (NV.t i2) ≤ 1000000 ∧ Wks z2 [AV.agg [i0 (NV.k i2), i0 (NV.a i2), i0 (NV.m i2), s0 (NV.t i2), AV.lst false 5 (NV.ks i2)]] ∧ hpL [] = hpL []) ∧ Nf ((!namedS (NV.k i2) (NV.m i2) (NV.t i2)) = false ∧ decide ((0 : Int) < z1) = true ∧ ∃ (i3 : Nd), (P i3 ∧ Wks [encP x] [encP i3] ∧ hpL [] = hpL []) ∧ ((!rightS i3) = true → Wk (b0 false) (b0 b) ∧ SameH (hpL []) (hpL [])) ∧ ((!rightS i3) = false → Yt (decide ((1 : Int) < z1) = true ∧ ∃ (i4 : Nd), (P i4 ∧ Wks [encP y] [encP i4] ∧ hpL [] = hpL []) ∧ ((!rightS i4) = true → Wk (b0 false) (b0 b) ∧ SameH (hpL []) (hpL [])) ∧ ((!rightS i4) = false → Yt (decide ((2 : Int) < z1) = false ∧ Wk (b0 true) (b0 b) ∧ SameH (hpL []) (hpL []))))))))) := by kernel_rfl
def ogSaK : Orc := HF (HF (HF (Orc.f (Orc.f (Orc.f Orc.z)))))
theorem gSaK_vc (k a m : Int) (t : ByteArray) (ks : List AV) (k2 a2 m2 : Int) (t2 : ByteArray) (ks2 : List AV) : gSaK ogSaK k a m t ks k2 a2 m2 t2 ks2 = ((k == k2) = false ∧ Nf4 (Nf4 (Nf4 (Nf (Nf (Wk (b0 false) (b0 false) ∧ SameH (hpL []) (hpL []))))))) := by kernel_rfl
def ogSaM : Orc := HT (Orc.t (HF (HF (Orc.f (Orc.f Orc.z)))))
theorem gSaM_vc (k a m : Int) (t : ByteArray) (ks : List AV) (k2 a2 m2 : Int) (t2 : ByteArray) (ks2 : List AV) : gSaM ogSaM k a m t ks k2 a2 m2 t2 ks2 = ((k == k2) = true ∧ Yt4 ((m == m2) = false ∧ Nf4 (Nf4 (Nf (Wk (b0 false) (b0 false) ∧ SameH (hpL []) (hpL [])))))) := by kernel_rfl
def ogSaT : Orc := HT (HT (Orc.t (Orc.t (HF (Orc.f Orc.z)))))
theorem gSaT_vc (k a m : Int) (t : ByteArray) (ks : List AV) (k2 a2 m2 : Int) (t2 : ByteArray) (ks2 : List AV) : gSaT ogSaT k a m t ks k2 a2 m2 t2 ks2 = ((k == k2) = true ∧ Yt4 ((m == m2) = true ∧ Yt4 ((ByteArray.toList t == ByteArray.toList t2) = false ∧ Nf4 (Wk (b0 false) (b0 false) ∧ SameH (hpL []) (hpL []))))) := by kernel_rfl
def ogSaL : Orc := HT (HT (HT (Orc.t (Orc.t (Orc.t (Orc.t Orc.z))))))
theorem gSaL_vc (k a m : Int) (t : ByteArray) (ks : List AV) (k2 a2 m2 : Int) (t2 : ByteArray) (ks2 : List AV) : gSaL ogSaL k a m t ks k2 a2 m2 t2 ks2 = ((k == k2) = true ∧ Yt4 ((m == m2) = true ∧ Yt4 ((ByteArray.toList t == ByteArray.toList t2) = true ∧ Yt4 (((↑(List.length ks) : Int) != (↑(List.length ks2) : Int)) = true ∧ Wk (b0 false) (b0 false) ∧ SameH (hpL []) (hpL []))))) := by kernel_rfl
def ogSa0 : Orc := Orc.s (HT (Orc.s (HT (Orc.s (HT (Orc.f (Orc.f Orc.z))) (Orc.f (Orc.f (Orc.f (Orc.f Orc.z)))))) (HF (HF (Orc.f Orc.z))))) (HF (HF (HF (Orc.f (Orc.f Orc.z)))))
theorem gSa0_vc (k a m : Int) (t : ByteArray) (k2 a2 m2 : Int) (t2 : ByteArray) (r : Bool) : gSa0 ogSa0 k a m t k2 a2 m2 t2 r = (let z1 := (ByteArray.toList t == ByteArray.toList t2); ((k == k2) = true → Yt4 (((m == m2) = true → Yt4 ((z1 = true → Yt4 (Nf (Nf (Wk (b0 true) (b0 r) ∧ SameH (hpL []) (hpL []))))) ∧ (z1 = false → Nf4 (Wk (b0 false) (b0 r) ∧ SameH (hpL []) (hpL []))))) ∧ ((m == m2) = false → Nf4 (Nf4 (Nf (Wk (b0 false) (b0 r) ∧ SameH (hpL []) (hpL []))))))) ∧ ((k == k2) = false → Nf4 (Nf4 (Nf4 (Nf (Nf (Wk (b0 false) (b0 r) ∧ SameH (hpL []) (hpL [])))))))) := by kernel_rfl
def ogSa1 : Orc := Orc.s (HT (Orc.s (HT (Orc.s (HT (Orc.f (Orc.t (Orc.s Orc.z (Orc.f Orc.z))))) (Orc.f (Orc.f (Orc.f (Orc.f Orc.z)))))) (HF (HF (Orc.f Orc.z))))) (HF (HF (HF (Orc.f (Orc.f Orc.z)))))
theorem gSa1_vc (P : Nd → Nd → Prop) (k a m : Int) (t : ByteArray) (k2 a2 m2 : Int) (t2 : ByteArray) (x x2 : Nd) (r : Bool) : gSa1 ogSa1 P k a m t k2 a2 m2 t2 x x2 r = (let z1 := (↑(List.length [encP x]) : Int); let z2 := (ByteArray.toList t == ByteArray.toList t2); ((k == k2) = true → Yt4 (((m == m2) = true → Yt4 ((z2 = true → Yt4 ((z1 != (↑(List.length [encP x2]) : Int)) = false ∧ decide ((0 : Int) < z1) = true ∧ ∃ (i1 : Nd × Nd), (P (Prod.fst i1) (Prod.snd i1) ∧ Wks [encP x, encP x2] [AV.agg [i0 (Nd.kind (Prod.fst i1)), i0 (Nd.at_ (Prod.fst i1)), i0 (Nd.num (Prod.fst i1)), s0 (Nd.text (Prod.fst i1)), AV.lst false 5 (encL (Nd.kids (Prod.fst i1)))], AV.agg [i0 (Nd.kind (Prod.snd i1)), i0 (Nd.at_ (Prod.snd i1)), i0 (Nd.num (Prod.snd i1)), s0 (Nd.text (Prod.snd i1)), AV.lst false 5 (encL (Nd.kids (Prod.snd i1)))]] ∧ hpL [] = hpL []) ∧ ((!sameS (Prod.fst i1) (Prod.snd i1)) = true → Wk (b0 false) (b0 r) ∧ SameH (hpL []) (hpL [])) ∧ ((!sameS (Prod.fst i1) (Prod.snd i1)) = false → Yt (decide ((1 : Int) < z1) = false ∧ Wk (b0 true) (b0 r) ∧ SameH (hpL []) (hpL []))))) ∧ (z2 = false → Nf4 (Wk (b0 false) (b0 r) ∧ SameH (hpL []) (hpL []))))) ∧ ((m == m2) = false → Nf4 (Nf4 (Nf (Wk (b0 false) (b0 r) ∧ SameH (hpL []) (hpL []))))))) ∧ ((k == k2) = false → Nf4 (Nf4 (Nf4 (Nf (Nf (Wk (b0 false) (b0 r) ∧ SameH (hpL []) (hpL [])))))))) := by kernel_rfl
def ogSa2 : Orc := Orc.s (HT (Orc.s (HT (Orc.s (HT (Orc.f (Orc.t (Orc.s Orc.z (Orc.t (Orc.s Orc.z (Orc.f Orc.z))))))) (Orc.f (Orc.f (Orc.f (Orc.f Orc.z)))))) (HF (HF (Orc.f Orc.z))))) (HF (HF (HF (Orc.f (Orc.f Orc.z)))))
theorem gSa2_vc (P : Nd → Nd → Prop) (k a m : Int) (t : ByteArray) (k2 a2 m2 : Int) (t2 : ByteArray) (x y : Nd) (x2 y2 : Nd) (r : Bool) : gSa2 ogSa2 P k a m t k2 a2 m2 t2 x y x2 y2 r = (let z1 := (↑(List.length [encP x, encP y]) : Int); let z2 := (ByteArray.toList t == ByteArray.toList t2); ((k == k2) = true → Yt4 (((m == m2) = true → Yt4 ((z2 = true → Yt4 ((z1 != (↑(List.length [encP x2, encP y2]) : Int)) = false ∧ decide ((0 : Int) < z1) = true ∧ ∃ (i1 : Nd × Nd), (P (Prod.fst i1) (Prod.snd i1) ∧ Wks [encP x, encP x2] [AV.agg [i0 (Nd.kind (Prod.fst i1)), i0 (Nd.at_ (Prod.fst i1)), i0 (Nd.num (Prod.fst i1)), s0 (Nd.text (Prod.fst i1)), AV.lst false 5 (encL (Nd.kids (Prod.fst i1)))], AV.agg [i0 (Nd.kind (Prod.snd i1)), i0 (Nd.at_ (Prod.snd i1)), i0 (Nd.num (Prod.snd i1)), s0 (Nd.text (Prod.snd i1)), AV.lst false 5 (encL (Nd.kids (Prod.snd i1)))]] ∧ hpL [] = hpL []) ∧ ((!sameS (Prod.fst i1) (Prod.snd i1)) = true → Wk (b0 false) (b0 r) ∧ SameH (hpL []) (hpL [])) ∧ ((!sameS (Prod.fst i1) (Prod.snd i1)) = false → Yt (decide ((1 : Int) < z1) = true ∧ ∃ (i2 : Nd × Nd), (P (Prod.fst i2) (Prod.snd i2) ∧ Wks [encP y, encP y2] [AV.agg [i0 (Nd.kind (Prod.fst i2)), i0 (Nd.at_ (Prod.fst i2)), i0 (Nd.num (Prod.fst i2)), s0 (Nd.text (Prod.fst i2)), AV.lst false 5 (encL (Nd.kids (Prod.fst i2)))], AV.agg [i0 (Nd.kind (Prod.snd i2)), i0 (Nd.at_ (Prod.snd i2)), i0 (Nd.num (Prod.snd i2)), s0 (Nd.text (Prod.snd i2)), AV.lst false 5 (encL (Nd.kids (Prod.snd i2)))]] ∧ hpL [] = hpL []) ∧ ((!sameS (Prod.fst i2) (Prod.snd i2)) = true → Wk (b0 false) (b0 r) ∧ SameH (hpL []) (hpL [])) ∧ ((!sameS (Prod.fst i2) (Prod.snd i2)) = false → Yt (decide ((2 : Int) < z1) = false ∧ Wk (b0 true) (b0 r) ∧ SameH (hpL []) (hpL []))))))) ∧ (z2 = false → Nf4 (Wk (b0 false) (b0 r) ∧ SameH (hpL []) (hpL []))))) ∧ ((m == m2) = false → Nf4 (Nf4 (Nf (Wk (b0 false) (b0 r) ∧ SameH (hpL []) (hpL []))))))) ∧ ((k == k2) = false → Nf4 (Nf4 (Nf4 (Nf (Nf (Wk (b0 false) (b0 r) ∧ SameH (hpL []) (hpL [])))))))) := by kernel_rfl
end Go.Proofs.YtpofhijgccocpaaDoor
end
section
namespace Go.TP
open Go.AS
mutual
def leafS : Nd → Nat
 | .mk _ _ _ _ ks => leafL ks
def leafL : List Nd → Nat
 | [] => 1
 | n :: r => leafS n + match r with
  | [] => 0
  | _ :: _ => leafL r
end
def Lf (ts : List Tk) (r : R) : Prop := leafS r.n + r.ts.length ≤ ts.length + 1
theorem take_len {ts : List Tk} (h : okT ts) (hk : (headT ts).kind ≠ 11) : (takeT ts).length + 1 = ts.length := by
 cases ts with
 | nil => exact h.elim
 | cons t r => have hk : t.kind ≠ 11 := hk; rw [takeT_cons hk]; rfl
theorem Lf.of {ts us : List Tk} {r : R} (h : Lf us r) (hl : us.length ≤ ts.length) : Lf ts r := by unfold Lf at *; omega
end Go.TP
end
section
namespace Go.Proofs.YtpofhijgccocpaaDoor
open Go.AS Go.TP
noncomputable section
theorem form_le (t : ByteArray) : 0 ≤ formS t ∧ formS t ≤ 3 := by
 unfold formS
 split
 · decide
 · split
   · decide
   · split <;> decide
theorem XR0_ok : XR0.Sound := (XB_ok.add (conOk1 (s := spFormR) fun w _ => form_ok w)).add (conOk1 (s := spPreR) fun w h => isPrefix_ok w h)
theorem eqT {a b : Int} (h : (a == b) = true) : a = b := eq_of_beq h
theorem eqF {a b : Int} (h : (a == b) = false) : a ≠ b := beq_eq_false_iff_ne.1 h
theorem gKids_ok (k a m : Int) (t : ByteArray) (ks : List AV) : gKids ogKids k a m t ks (kidsN k t) := by
 rw [gKids_vc]
 refine ⟨fun h => ?_, fun h1 => ⟨fun h => ?_, fun h2 => ⟨fun h => ?_, fun h3 => ⟨fun h => ?_, fun h4 => ⟨fun h => ?_, fun h5 => ⟨fun h => ?_, fun h6 => ⟨fun h => ?_, fun h7 => ⟨fun h => ?_, fun h8 => ⟨fun h => ?_, fun h9 => ⟨fun h => ?_, fun h10 => ?_⟩⟩⟩⟩⟩⟩⟩⟩⟩⟩
 · obtain rfl := eqT h; exact ⟨rfl, .refl _, .rfl⟩
 · obtain rfl := eqT h; exact ⟨rfl, .refl _, .rfl⟩
 · obtain rfl := eqT h; exact ⟨rfl, .refl _, .rfl⟩
 · obtain rfl := eqT h; exact ⟨rfl, .refl _, .rfl⟩
 · obtain rfl := eqT h; exact ⟨.refl _, .rfl⟩
 · obtain rfl := eqT h; exact ⟨rfl, .refl _, .rfl⟩
 · obtain rfl := eqT h; exact ⟨rfl, .refl _, .rfl⟩
 · obtain rfl := eqT h; exact ⟨.refl _, .rfl⟩
 · obtain rfl := eqT h; exact ⟨.refl _, .rfl⟩
 · obtain rfl := eqT h
   have hf := form_le t
   refine ⟨t, ⟨trivial, .refl _, rfl⟩, inR_i64 (by omega) (by omega), .of_eq ?_, .rfl⟩
   have e : kidsN 10 t = if formS t - 1 < 1 then formS t - 1 else 1 := rfl
   rw [e]
   by_cases h : formS t - 1 < 1
   · rw [if_pos h, if_neg (by omega)]
   · rw [if_neg h]
     by_cases g : 1 < formS t - 1
     · rw [if_pos g]
     · rw [if_neg g, show formS t - 1 = 1 by omega]
 · have := eqF h1; have := eqF h2; have := eqF h3; have := eqF h4; have := eqF h5; have := eqF h6; have := eqF h7; have := eqF h8; have := eqF h9; have := eqF h10
   have e : kidsN k t = -1 := by unfold kidsN; rw [if_neg (by omega), if_neg (by omega), if_neg (by omega), if_neg (by omega)]
   rw [e]; exact ⟨.refl _, .rfl⟩
set_option maxRecDepth 100000 in
theorem kids_ok (k a m : Int) (t : ByteArray) (ks : List AV) : F fKids [ndV k a m t ks] (i0 (kidsN k t)) := F_ok XR0_ok rfl (by kernel_rfl) (by kernel_rfl) (by kernel_rfl) (gKids_ok k a m t ks)
theorem notT {b : Bool} (h : (!b) = true) : b = false := by cases b <;> first | rfl | cases h
theorem notF {b : Bool} (h : (!b) = false) : b = true := by cases b <;> first | rfl | cases h
theorem beqD (a b : Int) : (a == b) = decide (a = b) := by
 by_cases h : a = b
 · rw [decide_eq_true h, beq_iff_eq.2 h]
 · rw [decide_eq_false h, beq_eq_false_iff_ne.2 h]
theorem gNamed_ok (k a m : Int) (t : ByteArray) (ks : List AV) (ht : t.size ≤ 1000000) : gNamed ogNamed k a m t ks (namedS k m t) := by
 rw [gNamed_vc]
 have e0 : (ByteArray.toList t == ByteArray.toList { data := { toList := [] } }) = decide (t = ByteArray.empty) := strEq' t ⟨⟨[]⟩⟩
 refine ⟨fun h => ?_, fun h1 => ⟨fun h => ?_, fun h2 => ⟨fun h => ?_, fun h => ?_⟩⟩⟩
 · obtain rfl := eqT h
   have e : namedS 1 m t = (isPrefixS t && decide (m = 0)) := rfl
   rw [e]
   refine ⟨t, ⟨ht, .refl _, rfl⟩, fun h => ⟨rfl, rfl, ?_, .rfl⟩, fun h => ⟨rfl, rfl, ?_, .rfl⟩⟩
   · rw [h, beqD]; exact .refl _
   · rw [h]; exact .refl _
 · obtain rfl := eqT h
   have e : namedS 10 m t = (decide (m = 0) || (decide (formS t = 3) && (decide (0 < m) && decide (m ≤ 999999)))) := rfl
   rw [e]
   refine ⟨fun h => ⟨rfl, rfl, rfl, rfl, rfl, rfl, rfl, ?_, .rfl⟩, fun h0 => ⟨rfl, rfl, t, ⟨trivial, .refl _, rfl⟩, rfl, rfl, fun h => ⟨rfl, rfl, rfl, rfl, fun g => ⟨rfl, rfl, rfl, ?_, .rfl⟩, fun g => ⟨rfl, rfl, rfl, ?_, .rfl⟩⟩, fun h => ⟨rfl, rfl, rfl, rfl, rfl, rfl, rfl, rfl, ?_, .rfl⟩⟩⟩
   · rw [decide_eq_true (eqT h)]; exact .refl _
   · rw [decide_eq_false (eqF h0), decide_eq_true (eqT h), decide_eq_true (of_decide_eq_true g : 0 < m)]; exact .refl _
   · rw [decide_eq_false (eqF h0), decide_eq_true (eqT h), decide_eq_false (of_decide_eq_false g : ¬ 0 < m)]; exact .refl _
   · rw [decide_eq_false (eqF h0), decide_eq_false (eqF h)]; exact .refl _
 · rw [e0] at h
   have e : namedS k m t = (decide (t = ByteArray.empty) && decide (m = 0)) := by unfold namedS; rw [if_neg (eqF h1), if_neg (eqF h2)]
   rw [e, h, beqD]; exact ⟨rfl, rfl, .refl _, .rfl⟩
 · rw [e0] at h
   have e : namedS k m t = (decide (t = ByteArray.empty) && decide (m = 0)) := by unfold namedS; rw [if_neg (eqF h1), if_neg (eqF h2)]
   rw [e, h]; exact ⟨rfl, rfl, .refl _, .rfl⟩
set_option maxRecDepth 100000 in
theorem named_ok (k a m : Int) (t : ByteArray) (ks : List AV) (ht : t.size ≤ 1000000) : F fNamed [ndV k a m t ks] (b0 (namedS k m t)) := F_ok XR0_ok rfl (by kernel_rfl) (by kernel_rfl) (by kernel_rfl) (gNamed_ok k a m t ks ht)
theorem XR1_ok : XR1.Sound := (XR0_ok.add (conOk1 (s := spKidsR) fun v _ => kids_ok v.k v.a v.m v.t v.ks)).add (conOk1 (s := spNamedR) fun v h => named_ok v.k v.a v.m v.t v.ks h)
abbrev FRight (n : Nd) : Prop := F fRight [encP n] (b0 (rightS n))
set_option maxRecDepth 100000 in
theorem riFn {X : WX} (hX : X.Sound) (hp : X.px = X0) {os : Orc} {k a m : Int} {t : ByteArray} {ks : List AV} {r : Bool} (g : gRi X os k a m t ks r) : F fRight [ndV k a m t ks] (b0 r) := F_ok hX hp (by kernel_rfl) (by kernel_rfl) (by kernel_rfl) g
theorem encL_length : ∀ l : List Nd, (encL l).length = l.length
 | [] => rfl
 | _ :: r => by rw [encL, List.length_cons, List.length_cons, encL_length r]
theorem gRiA_ok (k a m : Int) (t : ByteArray) (ks : List AV) (h : kidsN k t < 0) : gRiA ogRiA k a m t ks := by
 rw [gRiA_vc]; exact ⟨⟨k, a, m, t, ks⟩, ⟨trivial, .refl _, rfl⟩, decide_eq_true h, by exact ex_go⟩
theorem gRiB_ok (k a m : Int) (t : ByteArray) (ks : List AV) (h : ¬ kidsN k t < 0) (h2 : kidsN k t ≠ ks.length) : gRiB ogRiB k a m t ks := by
 rw [gRiB_vc]; exact ⟨⟨k, a, m, t, ks⟩, ⟨trivial, .refl _, rfl⟩, decide_eq_false h, rfl, rfl, rfl, rfl, bne_iff_ne.2 h2, rfl, rfl, rfl, .refl _, .rfl⟩
theorem bneF {a b : Int} (h : a = b) : (a != b) = false := by rw [h]; exact bne_self_eq_false b
theorem gRiC_ok (k a m : Int) (t : ByteArray) (ks : List AV) (ht : t.size ≤ 1000000) (h : ¬ kidsN k t < 0) (h2 : kidsN k t = ks.length) (h3 : namedS k m t = false) : gRiC ogRiC k a m t ks := by
 rw [gRiC_vc]; exact ⟨⟨k, a, m, t, ks⟩, ⟨trivial, .refl _, rfl⟩, decide_eq_false h, rfl, rfl, rfl, rfl, bneF h2, rfl, ⟨k, a, m, t, ks⟩, ⟨ht, .refl _, rfl⟩, rfl, by rw [h3]; rfl, .refl _, .rfl⟩
theorem gRi0_ok (k a m : Int) (t : ByteArray) (ht : t.size ≤ 1000000) (h2 : kidsN k t = 0) (h3 : namedS k m t = true) : gRi0 ogRi0 k a m t := by
 rw [gRi0_vc]; exact ⟨⟨k, a, m, t, []⟩, ⟨trivial, .refl _, rfl⟩, decide_eq_false (by show ¬ kidsN k t < 0; omega), rfl, rfl, rfl, rfl, bneF h2, rfl, ⟨k, a, m, t, []⟩, ⟨ht, .refl _, rfl⟩, rfl, by rw [h3]; rfl, rfl, .refl _, .rfl⟩
theorem gRi1_ok (k a m : Int) (t : ByteArray) (x : Nd) (ht : t.size ≤ 1000000) (h2 : kidsN k t = 1) (h3 : namedS k m t = true) : gRi1 ogRi1 (fun n => n = x) k a m t x (rightS x && true) := by
 rw [gRi1_vc]
 refine ⟨⟨k, a, m, t, [encP x]⟩, ⟨trivial, .refl _, rfl⟩, decide_eq_false (by show ¬ kidsN k t < 0; omega), rfl, rfl, rfl, rfl, bneF h2, rfl, ⟨k, a, m, t, [encP x]⟩, ⟨ht, .refl _, rfl⟩, rfl, by rw [h3]; rfl, decide_eq_true (by show (0 : Int) < 1; decide), x, ⟨rfl, .refl _, rfl⟩, fun h => ⟨?_, .rfl⟩, fun h => ⟨rfl, decide_eq_false (by show ¬ (1 : Int) < 1; decide), ?_, .rfl⟩⟩
 · rw [notT h]; exact .refl _
 · rw [notF h]; exact .refl _
theorem gRi2_ok (k a m : Int) (t : ByteArray) (x y : Nd) (ht : t.size ≤ 1000000) (h2 : kidsN k t = 2) (h3 : namedS k m t = true) : gRi2 ogRi2 (fun n => n = x ∨ n = y) k a m t x y (rightS x && (rightS y && true)) := by
 rw [gRi2_vc]
 refine ⟨⟨k, a, m, t, [encP x, encP y]⟩, ⟨trivial, .refl _, rfl⟩, decide_eq_false (by show ¬ kidsN k t < 0; omega), rfl, rfl, rfl, rfl, bneF h2, rfl, ⟨k, a, m, t, [encP x, encP y]⟩, ⟨ht, .refl _, rfl⟩, rfl, by rw [h3]; rfl, decide_eq_true (by show (0 : Int) < 2; decide), x, ⟨.inl rfl, .refl _, rfl⟩, fun h => ⟨?_, .rfl⟩, fun h => ⟨rfl, decide_eq_true (by show (1 : Int) < 2; decide), y, ⟨.inr rfl, .refl _, rfl⟩, fun g => ⟨?_, .rfl⟩, fun g => ⟨rfl, decide_eq_false (by show ¬ (2 : Int) < 2; decide), ?_, .rfl⟩⟩⟩
 · rw [notT h]; exact .refl _
 · rw [notF h, notT g]; exact .refl _
 · rw [notF h, notF g]; exact .refl _
theorem kids_le (k : Int) (t : ByteArray) : kidsN k t ≤ 2 := by
 unfold kidsN
 split
 · decide
 · split
   · decide
   · split
     · decide
     · split
       · split <;> omega
       · decide
theorem right_bad {k a m : Int} {t : ByteArray} {ks : List Nd} (h : shapeS k m t ks.length = false) : rightS (.mk k a m t ks) = false := by rw [rightS, h]; rfl
set_option maxRecDepth 100000 in
theorem rightStep (k a m : Int) (t : ByteArray) (ks : List Nd) (ht : t.size ≤ 600) (ih : ∀ x ∈ ks, FRight x) : FRight (.mk k a m t ks) := by
 show F fRight [ndV k a m t (encL ks)] _
 by_cases h : kidsN k t < 0
 · have e : rightS (.mk k a m t ks) = false := right_bad (by unfold shapeS; rw [decide_eq_false (by omega)]; rfl)
   rw [e]; exact riFn XR1_ok rfl (gRiA_ok k a m t _ h)
 by_cases h2 : kidsN k t = ks.length
 · cases h3 : namedS k m t with
   | false =>
     have e : rightS (.mk k a m t ks) = false := right_bad (by unfold shapeS; rw [h3, Bool.and_false, Bool.and_false])
     rw [e]; exact riFn XR1_ok rfl (gRiC_ok k a m t _ (by omega) h (by rw [encL_length]; exact h2) h3)
   | true =>
     have e : rightS (.mk k a m t ks) = rightL ks := by
       rw [rightS]; unfold shapeS; rw [h3, decide_eq_true (by omega), decide_eq_true h2]; rfl
     rw [e]
     have hl := kids_le k t
     match ks, ih with
     | [], _ => exact riFn XR1_ok rfl (gRi0_ok k a m t (by omega) h2 h3)
     | [x], ih =>
       rw [encL_one]
       exact riFn (X := XR1.add fRight (Sp.con [spRight fun n => n = x])) (XR1_ok.add (conOk1 (s := spRight fun n => n = x) fun n (hn : n = x) => by rw [hn]; exact ih x (List.mem_cons_self ..))) rfl (gRi1_ok k a m t x (by omega) h2 h3)
     | [x, y], ih =>
       rw [encL_two]
       exact riFn (X := XR1.add fRight (Sp.con [spRight fun n => n = x ∨ n = y])) (XR1_ok.add (conOk1 (s := spRight fun n => n = x ∨ n = y) fun n (hn : n = x ∨ n = y) => ih n (by rcases hn with hn | hn <;> simp [hn]))) rfl (gRi2_ok k a m t x y (by omega) h2 h3)
     | x :: y :: z :: r, _ => rw [List.length_cons, List.length_cons, List.length_cons] at h2; omega
 · have e : rightS (.mk k a m t ks) = false := right_bad (by unfold shapeS; rw [decide_eq_false h2, Bool.false_and, Bool.and_false])
   rw [e]; exact riFn XR1_ok rfl (gRiB_ok k a m t _ h (by rw [encL_length]; exact h2))
theorem right_ok (n : Nd) : fineS n → FRight n := by
 refine Nd.rec (motive_1 := fun n => fineS n → FRight n) (motive_2 := fun l => fineL l → ∀ x ∈ l, FRight x) ?_ ?_ ?_ n
 · intro k a m t ks ih h; exact rightStep k a m t ks h.1 (ih h.2)
 · intro _ x hx; cases hx
 · intro x l i1 i2 h y hy
   rcases List.mem_cons.1 hy with rfl | hy
   · exact i1 h.1
   · exact i2 h.2 y hy
end
end Go.Proofs.YtpofhijgccocpaaDoor
end
section
namespace Go.Proofs.YtpofhijgccocpaaDoor
open Go.AS Go.TP
noncomputable section
abbrev FSame (a b : Nd) : Prop := F fSame [encP a, encP b] (b0 (sameS a b))
set_option maxRecDepth 100000 in
theorem saFn {X : WX} (hX : X.Sound) (hp : X.px = X0) {os : Orc} {k a m : Int} {t : ByteArray} {ks : List AV} {k2 a2 m2 : Int} {t2 : ByteArray} {ks2 : List AV} {r : Bool} (g : gSa X os k a m t ks k2 a2 m2 t2 ks2 r) : F fSame [ndV k a m t ks, ndV k2 a2 m2 t2 ks2] (b0 r) := F_ok hX hp (by kernel_rfl) (by kernel_rfl) (by kernel_rfl) g
theorem eqB {a b : Int} (h : a = b) : (a == b) = true := beq_iff_eq.2 h
theorem seF {t : ByteArray} (h : (ByteArray.toList t == ByteArray.toList t) = false) : False := by rw [strEq'] at h; exact of_decide_eq_false h rfl
theorem gSaK_ok (k a m : Int) (t : ByteArray) (ks : List AV) (k2 a2 m2 : Int) (t2 : ByteArray) (ks2 : List AV) (h : k ≠ k2) : gSaK ogSaK k a m t ks k2 a2 m2 t2 ks2 := by
 rw [gSaK_vc]; exact ⟨beq_eq_false_iff_ne.2 h, by exact ex_go⟩
theorem gSaM_ok (k a m : Int) (t : ByteArray) (ks : List AV) (a2 m2 : Int) (t2 : ByteArray) (ks2 : List AV) (h : m ≠ m2) : gSaM ogSaM k a m t ks k a2 m2 t2 ks2 := by
 rw [gSaM_vc]; exact ex_go
theorem gSaT_ok (k a m : Int) (t : ByteArray) (ks : List AV) (a2 : Int) (t2 : ByteArray) (ks2 : List AV) (h : t ≠ t2) : gSaT ogSaT k a m t ks k a2 m t2 ks2 := by
 rw [gSaT_vc, strEq', decide_eq_false h]; exact ex_go
theorem gSaL_ok (k a m : Int) (t : ByteArray) (ks : List AV) (a2 : Int) (ks2 : List AV) (h : ks.length ≠ ks2.length) : gSaL ogSaL k a m t ks k a2 m t ks2 := by
 have e : ((ks.length : Int) != (ks2.length : Int)) = true := bne_iff_ne.2 (by omega)
 rw [gSaL_vc, strEq', decide_eq_true rfl, e]; exact ex_go
theorem gSa0_ok (k a m : Int) (t : ByteArray) (a2 : Int) : gSa0 ogSa0 k a m t k a2 m t true := by
 rw [gSa0_vc]
 refine ⟨fun _ => ⟨rfl, rfl, rfl, rfl, fun _ => ⟨rfl, rfl, rfl, rfl, fun _ => ?_, fun h => (seF h).elim⟩, fun h => (eqF h rfl).elim⟩, fun h => (eqF h rfl).elim⟩
 exact ex_go
theorem gSa1_ok (k a m : Int) (t : ByteArray) (a2 : Int) (x x2 : Nd) : gSa1 ogSa1 (fun p q => p = x ∧ q = x2) k a m t k a2 m t x x2 (sameS x x2 && true) := by
 rw [gSa1_vc]
 refine ⟨fun _ => ⟨rfl, rfl, rfl, rfl, fun _ => ⟨rfl, rfl, rfl, rfl, fun _ => ⟨rfl, rfl, rfl, rfl, bneF rfl, decide_eq_true (by show (0 : Int) < 1; decide), (x, x2), ⟨⟨rfl, rfl⟩, .refl _, rfl⟩, fun h => ⟨?_, .rfl⟩, fun h => ⟨rfl, decide_eq_false (by show ¬ (1 : Int) < 1; decide), ?_, .rfl⟩⟩, fun h => (seF h).elim⟩, fun h => (eqF h rfl).elim⟩, fun h => (eqF h rfl).elim⟩
 · rw [notT h]; exact .refl _
 · rw [notF h]; exact .refl _
theorem gSa2_ok (k a m : Int) (t : ByteArray) (a2 : Int) (x y x2 y2 : Nd) : gSa2 ogSa2 (fun p q => (p = x ∧ q = x2) ∨ (p = y ∧ q = y2)) k a m t k a2 m t x y x2 y2 (sameS x x2 && (sameS y y2 && true)) := by
 rw [gSa2_vc]
 refine ⟨fun _ => ⟨rfl, rfl, rfl, rfl, fun _ => ⟨rfl, rfl, rfl, rfl, fun _ => ⟨rfl, rfl, rfl, rfl, bneF rfl, decide_eq_true (by show (0 : Int) < 2; decide), (x, x2), ⟨.inl ⟨rfl, rfl⟩, .refl _, rfl⟩, fun h => ⟨?_, .rfl⟩, fun h => ⟨rfl, decide_eq_true (by show (1 : Int) < 2; decide), (y, y2), ⟨.inr ⟨rfl, rfl⟩, .refl _, rfl⟩, fun g => ⟨?_, .rfl⟩, fun g => ⟨rfl, decide_eq_false (by show ¬ (2 : Int) < 2; decide), ?_, .rfl⟩⟩⟩, fun h => (seF h).elim⟩, fun h => (eqF h rfl).elim⟩, fun h => (eqF h rfl).elim⟩
 · rw [notT h]; exact .refl _
 · rw [notF h, notT g]; exact .refl _
 · rw [notF h, notF g]; exact .refl _
theorem same_mk (k a m : Int) (t : ByteArray) (ks : List Nd) (k2 a2 m2 : Int) (t2 : ByteArray) (ks2 : List Nd) : sameS (.mk k a m t ks) (.mk k2 a2 m2 t2 ks2) = (decide (k = k2) && (decide (m = m2) && (decide (t = t2) && (decide (ks.length = ks2.length) && sameL ks ks2)))) := by rw [sameS]; rfl
theorem right_len {k a m : Int} {t : ByteArray} {ks : List Nd} (h : rightS (.mk k a m t ks) = true) : ks.length ≤ 2 := by
 have := (kids_kind h).1
 have := kids_le k t
 omega
set_option maxRecDepth 100000 in
theorem sameStep (k a m : Int) (t : ByteArray) (ks : List Nd) (hr : rightS (.mk k a m t ks) = true) (ih : ∀ x ∈ ks, ∀ b, rightS x = true → rightS b = true → FSame x b) (b : Nd) (hb : rightS b = true) : FSame (.mk k a m t ks) b := by
 obtain ⟨k2, a2, m2, t2, ks2⟩ := b
 rw [FSame, same_mk]
 show F fSame [ndV k a m t (encL ks), ndV k2 a2 m2 t2 (encL ks2)] _
 by_cases hk : k = k2
 rotate_left
 · rw [decide_eq_false hk]; exact saFn XB_ok rfl (gSaK_ok k a m t _ k2 a2 m2 t2 _ hk)
 by_cases hm : m = m2
 rotate_left
 · subst hk; rw [decide_eq_true rfl, decide_eq_false hm]; exact saFn XB_ok rfl (gSaM_ok k a m t _ a2 m2 t2 _ hm)
 by_cases ht : t = t2
 rotate_left
 · subst hk; subst hm; rw [decide_eq_true rfl, decide_eq_true rfl, decide_eq_false ht]; exact saFn XB_ok rfl (gSaT_ok k a m t _ a2 t2 _ ht)
 subst hk; subst hm; subst ht
 rw [decide_eq_true rfl, decide_eq_true rfl, decide_eq_true rfl]
 by_cases hl : ks.length = ks2.length
 rotate_left
 · rw [decide_eq_false hl]; exact saFn XB_ok rfl (gSaL_ok k a m t _ a2 _ (by rw [encL_length, encL_length]; exact hl))
 rw [decide_eq_true hl]
 show F fSame _ (b0 (sameL ks ks2))
 have h2 := right_len hr
 have r1 := (kids_kind hr).2.2
 have r2 := (kids_kind hb).2.2
 match ks, ks2, hl, h2, ih, r1, r2 with
 | [], [], _, _, _, _, _ => exact saFn XB_ok rfl (gSa0_ok k a m t a2)
 | [x], [x2], _, _, ih, r1, r2 =>
  rw [encL_one, encL_one]
  exact saFn (X := XB.add fSame (Sp.con [spSame fun p q => p = x ∧ q = x2])) (XB_ok.add (conOk1 (s := spSame fun p q => p = x ∧ q = x2) fun n hn => by
   obtain ⟨p, q⟩ := n
   obtain ⟨h1, h2⟩ : p = x ∧ q = x2 := hn
   rw [h1, h2]
   exact ih x (by simp) x2 (r1 x (by simp)) (r2 x2 (by simp)))) rfl (gSa1_ok k a m t a2 x x2)
 | [x, y], [x2, y2], _, _, ih, r1, r2 =>
  rw [encL_two, encL_two]
  exact saFn (X := XB.add fSame (Sp.con [spSame fun p q => (p = x ∧ q = x2) ∨ (p = y ∧ q = y2)])) (XB_ok.add (conOk1 (s := spSame fun p q => (p = x ∧ q = x2) ∨ (p = y ∧ q = y2)) fun n hn => by
   obtain ⟨p, q⟩ := n
   rcases (hn : (p = x ∧ q = x2) ∨ (p = y ∧ q = y2)) with ⟨h1, h2⟩ | ⟨h1, h2⟩
   · obtain rfl : p = x := h1; obtain rfl : q = x2 := h2; exact ih p (by simp) q (r1 p (by simp)) (r2 q (by simp))
   · obtain rfl : p = y := h1; obtain rfl : q = y2 := h2; exact ih p (by simp) q (r1 p (by simp)) (r2 q (by simp)))) rfl (gSa2_ok k a m t a2 x y x2 y2)
 | x :: y :: z :: r, _, _, h2, _, _, _ => simp only [List.length_cons] at h2; omega
theorem same_ok (a b : Nd) (ha : rightS a = true) (hb : rightS b = true) : FSame a b := by
 refine Nd.rec (motive_1 := fun a => ∀ b, rightS a = true → rightS b = true → FSame a b) (motive_2 := fun l => ∀ x ∈ l, ∀ b, rightS x = true → rightS b = true → FSame x b) ?_ ?_ ?_ a b ha hb
 · intro k a m t ks ih b ha hb; exact sameStep k a m t ks ha ih b hb
 · intro x hx; cases hx
 · intro x l i1 i2 y hy b
   rcases List.mem_cons.1 hy with rfl | hy
   · exact i1 b
   · exact i2 y hy b
end
end Go.Proofs.YtpofhijgccocpaaDoor
end
section
namespace Go.TP
open Go.AS
def offL : Lv → Nat
 | .expr => 5
 | .term => 4
 | .part => 3
 | .ranged => 2
 | .atom => 1
def Rt (r : R) : Prop := r.e = none → rightS r.n = true
theorem rt_err {n : Nd} {x : Int × Int} {ts : List Tk} : Rt ⟨n, some x, ts⟩ := fun h => by cases h
theorem right_two {k : Int} (hk : k = 2 ∨ k = 3 ∨ k = 4 ∨ k = 8 ∨ k = 9) {a : Int} {x y : Nd} (hx : rightS x = true) (hy : rightS y = true) : rightS (.mk k a 0 ByteArray.empty [x, y]) = true := by
 refine right_inv.2 ⟨?_, fun z hz => ?_⟩
 · rcases hk with rfl | rfl | rfl | rfl | rfl <;> rfl
 · rcases List.mem_cons.1 hz with rfl | hz
   · exact hx
   · rw [List.mem_singleton.1 hz]; exact hy
theorem kmE_ne {k : Int} (h : kmE k ≠ 0) : kmE k = 2 ∨ kmE k = 3 ∨ kmE k = 4 ∨ kmE k = 8 ∨ kmE k = 9 := by
 unfold kmE at h ⊢
 split
 · exact .inl rfl
 · split
   · exact .inr (.inl rfl)
   · rename_i h1 h2; rw [if_neg h1, if_neg h2] at h; exact absurd rfl h
theorem kmT_ne {k : Int} (h : kmT k ≠ 0) : kmT k = 2 ∨ kmT k = 3 ∨ kmT k = 4 ∨ kmT k = 8 ∨ kmT k = 9 := by
 unfold kmT at h ⊢
 split
 · exact .inr (.inr (.inl rfl))
 · rename_i h1; rw [if_neg h1] at h; exact absurd rfl h
theorem chain_rt {part : List Tk → R} {N : Nat} (hp : ∀ ts, okT ts → Inv ts (part ts)) (hq : ∀ ts, okT ts → ts.length ≤ N → Rt (part ts)) (km : Int → Int) (hk : ∀ k, km k ≠ 0 → km k = 2 ∨ km k = 3 ∨ km k = 4 ∨ km k = 8 ∨ km k = 9) : ∀ (n : Nat) (r : R), okT r.ts → r.ts.length ≤ N → Rt r → Rt (chainS part km n r)
 | 0, r, _, _, h => by rw [chainS]; exact h
 | n + 1, r, h, hl, hn => by
  rw [chainS]
  split
  · rename_i hc
    have h1 := takeT_ok h
    have hl2 : (takeT r.ts).length ≤ N := Nat.le_trans h1.2 hl
    have h2 := hp _ h1.1
    refine chain_rt hp hq km hk n ⟨.mk (km (headT r.ts).kind) (headT r.ts).at_ 0 ByteArray.empty [r.n, (part (takeT r.ts)).n], (part (takeT r.ts)).e, (part (takeT r.ts)).ts⟩ h2.1 (Nat.le_trans h2.2 hl2) ?_
    intro he
    exact right_two (hk _ hc.2) (hn hc.1) (hq _ h1.1 hl2 he)
  · exact hn
theorem within_rt {d : Int} {t : Tk} {n0 : Nd} {us : List Tk} {f : Int → List Tk → R} (hf : Rt (f (d + 1) us)) : Rt (withinS d t n0 us f) := by
 unfold withinS
 split
 · exact rt_err
 · exact hf
theorem numB_le : ∀ (l : List UInt8) (a : Int), l.all isDigB = true → 0 ≤ a → 0 ≤ l.foldl (fun a c => 10 * a + (c.toNat - 48 : Int)) a ∧ l.foldl (fun a c => 10 * a + (c.toNat - 48 : Int)) a < 10 ^ l.length * (a + 1)
 | [], a, _, h => ⟨h, by simp only [List.foldl_nil, List.length_nil]; omega⟩
 | c :: l, a, hd, h => by
  rw [List.all_cons, Bool.and_eq_true] at hd
  have hc : 48 ≤ c.toNat ∧ c.toNat ≤ 57 := by
   have := hd.1
   unfold isDigB at this
   rw [Bool.and_eq_true] at this
   exact ⟨UInt8.le_iff_toNat_le.1 (of_decide_eq_true this.1), UInt8.le_iff_toNat_le.1 (of_decide_eq_true this.2)⟩
  obtain ⟨h1, h2⟩ := numB_le l (10 * a + (c.toNat - 48 : Int)) hd.2 (by omega)
  refine ⟨h1, ?_⟩
  rw [List.foldl_cons, List.length_cons, Int.pow_succ]
  refine Int.lt_of_lt_of_le h2 ?_
  rw [Int.mul_assoc]
  exact Int.mul_le_mul_of_nonneg_left (by omega) (Int.pow_nonneg (by decide))
theorem number_le {t : Tk} {k : Int} (h : numberS t = some k) : 0 ≤ k ∧ k ≤ 999999 := by
 unfold numberS at h
 split at h
 · rename_i hc
   cases h
   obtain ⟨h1, h2⟩ := numB_le t.text.data.toList 0 hc.2.1 (Int.le_refl _)
   refine ⟨h1, ?_⟩
   have hl : t.text.data.toList.length ≤ 6 := by rw [Array.length_toList]; exact hc.2.2.2
   have hp : (10 : Int) ^ t.text.data.toList.length ≤ 10 ^ 6 := by
     generalize t.text.data.toList.length = n at hl
     match n, hl with
     | 0, _ => decide
     | 1, _ => decide
     | 2, _ => decide
     | 3, _ => decide
     | 4, _ => decide
     | 5, _ => decide
     | 6, _ => decide
     | n + 7, h => omega
   have h3 : numB t.text.data.toList < 10 ^ t.text.data.toList.length * (0 + 1) := h2
   have e6 : (10 : Int) ^ 6 = 1000000 := rfl
   rw [e6] at hp
   omega
 · cases h
theorem form_vals (t : ByteArray) : formS t = 0 ∨ formS t = 1 ∨ formS t = 2 ∨ formS t = 3 := by
 unfold formS
 split
 · simp
 · split
   · simp
   · split <;> simp
theorem right_call0 {a : Int} {t : ByteArray} (h : formS t = 1) : rightS (.mk 10 a 0 t []) = true := by
 refine right_inv.2 ⟨?_, fun z hz => by cases hz⟩
 have e1 : kidsN 10 t = if formS t - 1 < 1 then formS t - 1 else 1 := rfl
 have e2 : namedS 10 0 t = (decide ((0 : Int) = 0) || (decide (formS t = 3) && (decide ((0 : Int) < 0) && decide ((0 : Int) ≤ 999999)))) := rfl
 unfold shapeS
 rw [e1, e2, h]; rfl
theorem right_call1 {a k : Int} {t : ByteArray} {x : Nd} (h : (formS t = 2 ∧ k = 0) ∨ (formS t = 3 ∧ 0 ≤ k ∧ k ≤ 999999)) (hx : rightS x = true) : rightS (.mk 10 a k t [x]) = true := by
 refine right_inv.2 ⟨?_, fun z hz => by rw [List.mem_singleton.1 hz]; exact hx⟩
 have e1 : kidsN 10 t = 1 := form_kids (by rcases h with h | h <;> simp [h.1])
 have e2 : namedS 10 k t = (decide (k = 0) || (decide (formS t = 3) && (decide (0 < k) && decide (k ≤ 999999)))) := rfl
 have e3 : namedS 10 k t = true := by
  rw [e2]
  by_cases h0 : k = 0
  · rw [decide_eq_true h0]; rfl
  · rcases h with ⟨_, h⟩ | ⟨h1, h2, h3⟩
    · exact absurd h h0
    · rw [decide_eq_true h1, decide_eq_true (by omega : 0 < k), decide_eq_true h3, Bool.or_eq_true]; exact .inr rfl
 unfold shapeS
 rw [e1, e3]; rfl
theorem right_name {a : Int} {t : ByteArray} (h : isPrefixS t = true) : rightS (.mk 1 a 0 t []) = true := by
 refine right_inv.2 ⟨?_, fun z hz => by cases hz⟩
 have e2 : namedS 1 0 t = (isPrefixS t && decide ((0 : Int) = 0)) := rfl
 unfold shapeS
 rw [e2, h]; rfl
theorem call_rt {expr : Int → List Tk → R} {d : Int} {w : Tk} {ts : List Tk} (he : ∀ d, Rt (expr d (takeT ts))) : Rt (callS expr d w ts) := by
 unfold callS
 simp only
 split
 · exact rt_err
 · rename_i h0
   refine within_rt ?_
   split
   · rename_i h1; exact fun _ => right_call0 h1
   · rename_i h1
     have hq := he (d + 1)
     split
     · rename_i hn; exact fun h => absurd h hn
     · rename_i hn
       have hr := hq (Classical.not_not.1 hn)
       split
       · rename_i h2; exact fun _ => right_call1 (.inl ⟨h2, rfl⟩) hr
       · rename_i h2
         have h3 : formS w.text = 3 := by have := form_vals w.text; omega
         split
         · rename_i hx; exact fun h => absurd h hx
         · split
           · exact fun h => by cases h
           · rename_i k hk; exact fun _ => right_call1 (.inr ⟨h3, number_le hk⟩) hr
theorem PF_rt : ∀ (f : Nat) (lv : Lv) (d : Int) (ts : List Tk), okT ts → 5 * ts.length + offL lv ≤ f → Rt (PF f lv d ts)
 | 0, lv, _, ts, _, h => by cases lv <;> simp only [offL] at h <;> omega
 | f + 1, .expr, d, ts, h, hf => by
  rw [PF]
  simp only [offL] at hf
  exact chain_rt (N := ts.length) (fun us hu => PF_inv f .term d us hu) (fun us hu hl => PF_rt f .term d us hu (by simp only [offL]; omega)) kmE (fun _ => kmE_ne) f _ (PF_inv f .term d ts h).1 (PF_inv f .term d ts h).2 (PF_rt f .term d ts h (by simp only [offL]; omega))
 | f + 1, .term, d, ts, h, hf => by
  rw [PF]
  simp only [offL] at hf
  exact chain_rt (N := ts.length) (fun us hu => PF_inv f .part d us hu) (fun us hu hl => PF_rt f .part d us hu (by simp only [offL]; omega)) kmT (fun _ => kmT_ne) f _ (PF_inv f .part d ts h).1 (PF_inv f .part d ts h).2 (PF_rt f .part d ts h (by simp only [offL]; omega))
 | f + 1, .part, d, ts, h, hf => by
  rw [PF]
  simp only [offL] at hf
  simp only
  split
  · exact PF_rt f .ranged d ts h (by simp only [offL]; omega)
  · rename_i hk
    have hl := take_len h (by omega)
    refine within_rt fun he => right_one (.inl rfl) (PF_rt f .part (d + 1) _ (takeT_ok h).1 (by simp only [offL]; omega) he)
 | f + 1, .ranged, d, ts, h, hf => by
  rw [PF]
  simp only [offL] at hf
  simp only
  split
  · rename_i hk
    have hl := take_len h (by omega)
    exact within_rt fun he => right_one (.inr (.inl rfl)) (PF_rt f .atom (d + 1) _ (takeT_ok h).1 (by simp only [offL]; omega) he)
  · have h2 := PF_rt f .atom d ts h (by simp only [offL]; omega)
    have i2 := PF_inv f .atom d ts h
    have second : ∀ (d : Int) (us : List Tk) (k a : Int) (n : Nd) (m : Bool), (k = 8 ∨ k = 9) → okT us → us.length ≤ ts.length → rightS n = true → Rt (secondS (PF f .atom d) k a n m us) := fun d us k a n m hk hu hl hn => by
      unfold secondS
      split
      · exact fun _ => right_one (.inr (.inr rfl)) hn
      · exact fun he => right_two (by omega) hn (PF_rt f .atom d us hu (by simp only [offL]; omega) he)
    have h3 := takeT_ok i2.1
    have l3 := Nat.le_trans h3.2 i2.2
    split
    · rename_i hn; exact fun h => absurd h hn
    · rename_i hn
      have hr := h2 (Classical.not_not.1 hn)
      split
      · exact within_rt (second _ _ _ _ _ _ (.inl rfl) h3.1 l3 hr)
      · split
        · exact second _ _ _ _ _ _ (.inr rfl) h3.1 l3 hr
        · exact fun _ => hr
 | f + 1, .atom, d, ts, h, hf => by
  rw [PF]
  simp only [offL] at hf
  simp only
  have h1 := takeT_ok h
  have h3 := takeT_ok h1.1
  split
  · rename_i hk
    have hl := take_len h (by omega)
    refine within_rt ?_
    have h2 := PF_rt f .expr (d + 1) _ h1.1 (by simp only [offL]; omega)
    split
    · exact h2
    · rename_i hn; exact fun _ => h2 (Classical.not_not.1 hn)
  · split
    · rename_i hk
      have hl := take_len h (by omega)
      split
      · exact call_rt fun d => PF_rt f .expr d _ h3.1 (by simp only [offL]; omega)
      · split
        · rename_i hp; exact fun _ => right_name hp
        · exact rt_err
    · exact fun h => by cases h
end Go.TP
end
section
namespace Go.TP
open Go.AS
theorem right_rec {P : Nd → Prop} (hn : ∀ a t, isPrefixS t = true → P (.mk 1 a 0 t []))
  (h2 : ∀ k a x y, (k = 2 ∨ k = 3 ∨ k = 4 ∨ k = 8 ∨ k = 9) → rightS x = true → rightS y = true → P x → P y → P (.mk k a 0 ByteArray.empty [x, y]))
  (h1 : ∀ k a x, (k = 5 ∨ k = 6 ∨ k = 7) → rightS x = true → P x → P (.mk k a 0 ByteArray.empty [x]))
  (c0 : ∀ a t, formS t = 1 → P (.mk 10 a 0 t []))
  (c1 : ∀ a n t x, (formS t = 2 ∧ n = 0) ∨ (formS t = 3 ∧ 0 ≤ n ∧ n ≤ 999999) → rightS x = true → P x → P (.mk 10 a n t [x])) : ∀ n, rightS n = true → P n := by
 intro n
 refine Nd.rec (motive_1 := fun n => rightS n = true → P n) (motive_2 := fun l => ∀ x ∈ l, rightS x = true → P x) ?_ ?_ ?_ n
 · intro k a n t ks ih h
   obtain ⟨e1, e2, e3⟩ := kids_kind h
   by_cases k2 : k = 2 ∨ k = 3 ∨ k = 4 ∨ k = 8 ∨ k = 9
   · have e : kidsN k t = 2 := if_pos k2
     have hl : ks.length = 2 := by omega
     obtain ⟨x, y, rfl⟩ := two_kids hl
     have e5 : namedS k n t = (decide (t = ByteArray.empty) && decide (n = 0)) := by
       unfold namedS; rw [if_neg (by omega), if_neg (by omega)]
     rw [e5, Bool.and_eq_true, decide_eq_true_eq, decide_eq_true_eq] at e2
     obtain ⟨rfl, rfl⟩ := e2
     exact h2 k a x y k2 (e3 x (by simp)) (e3 y (by simp)) (ih x (by simp) (e3 x (by simp))) (ih y (by simp) (e3 y (by simp)))
   · have e : kidsN k t = if k = 5 ∨ k = 6 ∨ k = 7 then 1 else if k = 1 then 0 else if k = 10 then (if formS t - 1 < 1 then formS t - 1 else 1) else -1 := if_neg k2
     by_cases k1 : k = 5 ∨ k = 6 ∨ k = 7
     · rw [if_pos k1] at e
       obtain ⟨x, rfl⟩ := one_kid (ks := ks) (by omega)
       have e5 : namedS k n t = (decide (t = ByteArray.empty) && decide (n = 0)) := by
         unfold namedS; rw [if_neg (by omega), if_neg (by omega)]
       rw [e5, Bool.and_eq_true, decide_eq_true_eq, decide_eq_true_eq] at e2
       obtain ⟨rfl, rfl⟩ := e2
       exact h1 k a x k1 (e3 x (by simp)) (ih x (by simp) (e3 x (by simp)))
     · rw [if_neg k1] at e
       by_cases k0 : k = 1
       · subst k0
         have e : kidsN 1 t = 0 := e
         have hl : ks = [] := List.length_eq_zero_iff.1 (by omega)
         subst hl
         have e5 : namedS 1 n t = (isPrefixS t && decide (n = 0)) := rfl
         rw [e5, Bool.and_eq_true, decide_eq_true_eq] at e2
         obtain ⟨g, rfl⟩ := e2
         exact hn a t g
       · rw [if_neg k0] at e
         by_cases kc : k = 10
         · subst kc
           have e : kidsN 10 t = if formS t - 1 < 1 then formS t - 1 else 1 := e
           have e5 : namedS 10 n t = (decide (n = 0) || (decide (formS t = 3) && (decide (0 < n) && decide (n ≤ 999999)))) := rfl
           rw [e5, Bool.or_eq_true, Bool.and_eq_true, Bool.and_eq_true, decide_eq_true_eq, decide_eq_true_eq, decide_eq_true_eq, decide_eq_true_eq] at e2
           rcases form_vals t with f | f | f | f
           · rw [f, if_pos (by decide)] at e; omega
           · rw [f, if_pos (by decide)] at e
             have hl : ks = [] := List.length_eq_zero_iff.1 (by omega)
             subst hl
             obtain rfl : n = 0 := by omega
             exact c0 a t f
           · rw [f, if_neg (by decide)] at e
             obtain ⟨x, rfl⟩ := one_kid (ks := ks) (by omega)
             exact c1 a n t x (.inl ⟨f, by omega⟩) (e3 x (by simp)) (ih x (by simp) (e3 x (by simp)))
           · rw [f, if_neg (by decide)] at e
             obtain ⟨x, rfl⟩ := one_kid (ks := ks) (by omega)
             exact c1 a n t x (.inr ⟨f, by omega⟩) (e3 x (by simp)) (ih x (by simp) (e3 x (by simp)))
         · rw [if_neg kc] at e; omega
 · intro x hx; cases hx
 · intro x l hx hl y hy
   rcases List.mem_cons.1 hy with rfl | hy
   · exact hx
   · exact hl y hy
def levelK (k : Int) : Nat := if k = 2 ∨ k = 3 then 0 else if k = 4 then 1 else if k = 5 then 2 else if k = 6 ∨ k = 7 ∨ k = 8 ∨ k = 9 then 3 else 4
def itoaB (n : Int) : ByteArray := ⟨(Lib.itoa n).toArray⟩
abbrev Ky := Int × ByteArray
def sg (k : Int) : Ky := (k, ByteArray.empty)
def wd (t : ByteArray) : Ky := (1, t)
def brK (lv : Nat) (p : Nat × List Ky) : List Ky := if p.1 < lv then sg 2 :: (p.2 ++ [sg 3]) else p.2
def k0 (l : List (Nat × List Ky)) : Nat × List Ky := l.getD 0 (0, [])
def k1 (l : List (Nat × List Ky)) : Nat × List Ky := l.getD 1 (0, [])
def toksK (k n : Int) (t : ByteArray) (l : List (Nat × List Ky)) : List Ky :=
 if k = 2 then brK 0 (k0 l) ++ sg 7 :: brK 1 (k1 l)
 else if k = 3 then brK 0 (k0 l) ++ sg 8 :: brK 1 (k1 l)
 else if k = 4 then brK 1 (k0 l) ++ sg 9 :: brK 2 (k1 l)
 else if k = 5 then sg 10 :: brK 2 (k0 l)
 else if k = 6 then sg 5 :: brK 4 (k0 l)
 else if k = 7 then brK 4 (k0 l) ++ [sg 5]
 else if k = 8 then brK 4 (k0 l) ++ sg 5 :: brK 4 (k1 l)
 else if k = 9 then brK 4 (k0 l) ++ sg 6 :: brK 4 (k1 l)
 else if k = 10 then wd t :: sg 2 :: ((if formS t = 1 then [] else if formS t = 2 then (k0 l).2 else (k0 l).2 ++ [sg 4, wd (itoaB n)]) ++ [sg 3])
 else [wd t]
mutual
def toksS : Nd → List Ky
 | .mk k _ n t ks => toksK k n t (toksL ks)
def toksL : List Nd → List (Nat × List Ky)
 | [] => []
 | n :: r => (levelK n.kind, toksS n) :: toksL r
end
def atS (n : Nd) (lv : Nat) : List Ky := brK lv (levelK n.kind, toksS n)
def needK (k : Int) (t : ByteArray) (l : List (Nat × Nat)) : Nat :=
 let b (lv : Nat) (p : Nat × Nat) : Nat := if p.1 < lv then p.2 + 1 else p.2
 let x := l.getD 0 (0, 0)
 let y := l.getD 1 (0, 0)
 if k = 2 ∨ k = 3 then max (b 0 x) (b 1 y)
 else if k = 4 then max (b 1 x) (b 2 y)
 else if k = 5 then b 2 x + 1
 else if k = 6 then b 4 x + 1
 else if k = 7 then max (b 4 x) 1
 else if k = 8 then max (b 4 x) (b 4 y + 1)
 else if k = 9 then max (b 4 x) (b 4 y)
 else if k = 10 then (if formS t = 1 then 1 else x.2 + 1)
 else 0
mutual
def needS : Nd → Nat
 | .mk k _ _ t ks => needK k t (needL ks)
def needL : List Nd → List (Nat × Nat)
 | [] => []
 | n :: r => (levelK n.kind, needS n) :: needL r
end
def needA (n : Nd) (lv : Nat) : Nat := if levelK n.kind < lv then needS n + 1 else needS n
end Go.TP
end
section
namespace Go.TP
open Go.AS
def key (t : Tk) : Ky := (t.kind, if t.kind = 1 then t.text else ByteArray.empty)
theorem key_sg {t : Tk} {k : Int} (h : key t = sg k) : t.kind = k := (Prod.mk.inj h).1
theorem key_wd {t : Tk} {w : ByteArray} (h : key t = wd w) : t.kind = 1 ∧ t.text = w := by
 obtain ⟨h1, h2⟩ := Prod.mk.inj h
 rw [if_pos h1] at h2
 exact ⟨h1, h2⟩
theorem map_cons {ts : List Tk} {p : Ky} {ps : List Ky} (h : ts.map key = p :: ps) : ∃ t us, ts = t :: us ∧ key t = p ∧ us.map key = ps := by
 cases ts with
 | nil => cases h
 | cons t us => exact ⟨t, us, rfl, (List.cons.inj h).1, (List.cons.inj h).2⟩
theorem map_app {ts : List Tk} {ps qs : List Ky} (h : ts.map key = ps ++ qs) : ∃ us vs, ts = us ++ vs ∧ us.map key = ps ∧ vs.map key = qs := List.map_eq_append_iff.1 h
theorem map_nil {ts : List Tk} (h : ts.map key = []) : ts = [] := List.map_eq_nil_iff.1 h
theorem dec_dig (u : Nat) : (Lib.decDigits u).all isDigB = true := by
 induction u using Nat.strongRecOn with
 | _ u ih =>
  have one : ∀ v, v < 10 → isDigB (UInt8.ofNat (48 + v)) = true := by decide
  rw [Lib.decDigits]
  split
  · rename_i h; rw [List.all_cons, one u h]; rfl
  · rename_i h
    rw [List.all_append, ih (u / 10) (by omega), Bool.true_and, List.all_cons, one (u % 10) (by omega)]; rfl
theorem dec_num (u : Nat) : numB (Lib.decDigits u) = u := by
 induction u using Nat.strongRecOn with
 | _ u ih =>
  have one : ∀ v, v < 10 → (UInt8.ofNat (48 + v)).toNat = 48 + v := by decide
  rw [Lib.decDigits]
  split
  · rename_i h
    simp only [numB, List.foldl_cons, List.foldl_nil, one u h]
    omega
  · rename_i h
    have hi := ih (u / 10) (by omega)
    unfold numB at hi ⊢
    rw [List.foldl_append, hi]
    simp only [List.foldl_cons, List.foldl_nil, one (u % 10) (by omega)]
    omega
theorem dec_len : ∀ (k u : Nat), u < 10 ^ (k + 1) → (Lib.decDigits u).length ≤ k + 1
 | 0, u, h => by
  rw [Lib.decDigits, dif_pos (by simpa using h)]; simp
 | k + 1, u, h => by
  rw [Lib.decDigits]
  split
  · simp
  · rw [List.length_append]
    have := dec_len k (u / 10) (by rw [Nat.pow_succ] at h; omega)
    simp only [List.length_cons, List.length_nil]; omega
theorem dec_pos (u : Nat) : 0 < (Lib.decDigits u).length := by
 rw [Lib.decDigits]
 split
 · simp
 · rw [List.length_append]; simp
theorem itoa_nat {n : Int} (h : 0 ≤ n) : Lib.itoa n = Lib.decDigits n.toNat := if_neg (by omega)
theorem number_itoa {t : Tk} {n : Int} (h0 : 0 ≤ n) (h1 : n ≤ 999999) (hk : t.kind = 1) (ht : t.text = itoaB n) : numberS t = some n := by
 unfold numberS
 have e : t.text.data.toList = Lib.decDigits n.toNat := by rw [ht, itoaB, itoa_nat h0]
 have hs : t.text.size = (Lib.decDigits n.toNat).length := by rw [← e]; rfl
 rw [e, hs, if_pos ⟨hk, dec_dig _, dec_pos _, dec_len 5 _ (by have : (10 : Nat) ^ (5 + 1) = 1000000 := by decide
                                                              omega)⟩, dec_num]
 congr 1; omega
def Fol (lv : Nat) (k : Int) : Prop := k = 3 ∨ k = 4 ∨ k = 11 ∨ (1 ≤ lv ∧ (k = 7 ∨ k = 8)) ∨ (2 ≤ lv ∧ k = 9) ∨ (4 ≤ lv ∧ (k = 5 ∨ k = 6))
theorem Fol.mono {a b : Nat} {k : Int} (h : Fol a k) (hab : a ≤ b) : Fol b k := by unfold Fol at *; omega
def LV : Nat → Lv
 | 0 => .expr
 | 1 => .term
 | 2 => .part
 | 3 => .ranged
 | _ => .atom
def Good (n : Nd) (lv : Nat) : Prop := ∀ (ts rest : List Tk) (d : Int) (f : Nat), ts.map key = atS n lv → rest ≠ [] → Fol lv (headT rest).kind → d + needA n lv ≤ 24 → 5 * (ts.length + rest.length) + (5 - lv) ≤ f → ∃ m, sameS n m = true ∧ PF f (LV lv) d (ts ++ rest) = ⟨m, none, rest⟩
def GE (n : Nd) : Prop := ∀ (ts rest : List Tk) (d : Int) (f k : Nat), ts.map key = atS n 0 → rest ≠ [] → Fol 1 (headT rest).kind → d + needA n 0 ≤ 24 → 5 * (ts.length + rest.length) + 4 ≤ f → ts.length ≤ k →
 ∃ m k', sameS n m = true ∧ k ≤ k' + ts.length ∧ chainS (PF f .term d) kmE k (PF f .term d (ts ++ rest)) = chainS (PF f .term d) kmE k' ⟨m, none, rest⟩
def GT (n : Nd) : Prop := ∀ (ts rest : List Tk) (d : Int) (f k : Nat), ts.map key = atS n 1 → rest ≠ [] → Fol 2 (headT rest).kind → d + needA n 1 ≤ 24 → 5 * (ts.length + rest.length) + 3 ≤ f → ts.length ≤ k →
 ∃ m k', sameS n m = true ∧ k ≤ k' + ts.length ∧ chainS (PF f .part d) kmT k (PF f .part d (ts ++ rest)) = chainS (PF f .part d) kmT k' ⟨m, none, rest⟩
theorem at_tight {n : Nd} {lv : Nat} (h : ¬ levelK n.kind < lv) : atS n lv = toksS n := if_neg h
theorem at_loose {n : Nd} {lv : Nat} (h : levelK n.kind < lv) : atS n lv = sg 2 :: (toksS n ++ [sg 3]) := if_pos h
theorem need_tight {n : Nd} {lv : Nat} (h : ¬ levelK n.kind < lv) : needA n lv = needS n := if_neg h
theorem need_loose {n : Nd} {lv : Nat} (h : levelK n.kind < lv) : needA n lv = needS n + 1 := if_pos h
theorem at_succ {n : Nd} {lv : Nat} (h : levelK n.kind ≠ lv) : atS n (lv + 1) = atS n lv ∧ needA n (lv + 1) = needA n lv := by
 by_cases g : levelK n.kind < lv
 · rw [at_loose g, at_loose (by omega), need_loose g, need_loose (by omega)]; exact ⟨rfl, rfl⟩
 · rw [at_tight g, at_tight (by omega), need_tight g, need_tight (by omega)]; exact ⟨rfl, rfl⟩
theorem chain_stop {part : List Tk → R} {km : Int → Int} {rest : List Tk} (h : km (headT rest).kind = 0) : ∀ (k : Nat) (m : Nd), chainS part km k ⟨m, none, rest⟩ = ⟨m, none, rest⟩
 | 0, m => by rw [chainS]
 | k + 1, m => by rw [chainS, if_neg (fun c => c.2 h)]
theorem kmE_fol {k : Int} (h : Fol 0 k) : kmE k = 0 := by unfold Fol at h; unfold kmE; rw [if_neg (by omega), if_neg (by omega)]
theorem kmT_fol {k : Int} (h : Fol 1 k) : kmT k = 0 := by unfold Fol at h; unfold kmT; rw [if_neg (by omega)]
theorem E0 {n : Nd} (h : GE n) : Good n 0 := by
 intro ts rest d f hk hr hf hd hfu
 cases f with
 | zero => omega
 | succ f =>
  show ∃ m, sameS n m = true ∧ PF (f + 1) .expr d (ts ++ rest) = _
  obtain ⟨m, k', h1, _, h2⟩ := h ts rest d f f hk hr (hf.mono (by omega)) hd (by omega) (by omega)
  exact ⟨m, h1, by rw [PF, h2, chain_stop (kmE_fol hf)]⟩
theorem T1 {n : Nd} (h : GT n) : Good n 1 := by
 intro ts rest d f hk hr hf hd hfu
 cases f with
 | zero => omega
 | succ f =>
  show ∃ m, sameS n m = true ∧ PF (f + 1) .term d (ts ++ rest) = _
  obtain ⟨m, k', h1, _, h2⟩ := h ts rest d f f hk hr (hf.mono (by omega)) hd (by omega) (by omega)
  exact ⟨m, h1, by rw [PF, h2, chain_stop (kmT_fol hf)]⟩
theorem GE0 {n : Nd} (hl : levelK n.kind ≠ 0) (h : Good n 1) : GE n := by
 intro ts rest d f k hk hr hf hd hfu hlen
 obtain ⟨e1, e2⟩ := at_succ hl
 obtain ⟨m, h1, h2⟩ := h ts rest d f (by rw [e1]; exact hk) hr hf (by rw [e2]; exact hd) (by omega)
 have h2 : PF f .term d (ts ++ rest) = _ := h2
 exact ⟨m, k, h1, by omega, by rw [h2]⟩
theorem GT0 {n : Nd} (hl : levelK n.kind ≠ 1) (h : Good n 2) : GT n := by
 intro ts rest d f k hk hr hf hd hfu hlen
 obtain ⟨e1, e2⟩ := at_succ hl
 obtain ⟨m, h1, h2⟩ := h ts rest d f (by rw [e1]; exact hk) hr hf (by rw [e2]; exact hd) (by omega)
 have h2 : PF f .part d (ts ++ rest) = _ := h2
 exact ⟨m, k, h1, by omega, by rw [h2]⟩
theorem mk4 {n : Nd} (hl : levelK n.kind < 4) (h : Good n 0) : Good n 4 := by
 intro ts rest d f hk hr hf hd hfu
 rw [at_loose hl] at hk
 rw [need_loose hl] at hd
 obtain ⟨o, us, rfl, ho, hus⟩ := map_cons hk
 obtain ⟨ti, cs, rfl, hti, hcs⟩ := map_app hus
 obtain ⟨c, cs', rfl, hc, hcs'⟩ := map_cons hcs
 have := map_nil hcs'; subst this
 have ho := key_sg ho
 have hc := key_sg hc
 cases f with
 | zero => omega
 | succ f =>
  simp only [List.length_cons, List.length_append, List.length_nil] at hfu
  obtain ⟨m, h1, h2⟩ := h ti (c :: rest) (d + 1) f (by rw [at_tight (by omega)]; exact hti) (by simp) (by show Fol 0 c.kind; rw [hc]; exact .inl rfl) (by rw [need_tight (by omega)]; omega) (by simp only [List.length_cons]; omega)
  have h2 : PF f .expr (d + 1) (ti ++ c :: rest) = _ := h2
  refine ⟨m, h1, ?_⟩
  show PF (f + 1) .atom d (o :: (ti ++ [c]) ++ rest) = _
  obtain ⟨k, a, x⟩ := o
  have ho : k = 2 := ho
  subst ho
  have e : (⟨2, a, x⟩ : Tk) :: (ti ++ [c]) ++ rest = ⟨2, a, x⟩ :: (ti ++ c :: rest) := by simp
  rw [e, PF_atom, if_pos rfl, takeT_cons (by show (2 : Int) ≠ 11; decide)]
  unfold withinS
  rw [if_neg (by omega)]
  simp only [h2, ne_eq, not_true_eq_false, if_false]
  have e3 : expectS 3 (c :: rest) = (none, rest) := by
   unfold expectS; rw [if_pos (by exact hc), takeT_cons (by rw [hc]; decide)]
  rw [e3]
def Hd (n : Nd) : Prop := (∃ p r, atS n 4 = p :: r ∧ (p.1 = 1 ∨ p.1 = 2)) ∧ ∃ p r, atS n 3 = p :: r ∧ (p.1 = 1 ∨ p.1 = 2 ∨ p.1 = 5)
theorem hd_loose {n : Nd} (h : levelK n.kind < 3) : Hd n := by
 constructor
 · rw [at_loose (by omega)]; exact ⟨_, _, rfl, .inr rfl⟩
 · rw [at_loose (by omega)]; exact ⟨_, _, rfl, .inr (.inl rfl)⟩
theorem hd_word {n : Nd} {t : ByteArray} {r : List Ky} (h : levelK n.kind = 4) (e : toksS n = wd t :: r) : Hd n := by
 constructor
 · rw [at_tight (by omega), e]; exact ⟨_, _, rfl, .inl rfl⟩
 · rw [at_tight (by omega), e]; exact ⟨_, _, rfl, .inl rfl⟩
theorem hd_three {n : Nd} {p : Ky} {r : List Ky} (h : levelK n.kind = 3) (e : toksS n = p :: r) (hp : p.1 = 1 ∨ p.1 = 2 ∨ p.1 = 5) : Hd n := by
 constructor
 · rw [at_loose (by omega)]; exact ⟨_, _, rfl, .inr rfl⟩
 · rw [at_tight (by omega), e]; exact ⟨_, _, rfl, hp⟩
theorem P3 {n : Nd} (hl : levelK n.kind ≠ 3) (hh : Hd n) (h : Good n 4) : Good n 3 := by
 intro ts rest d f hk hr hf hd hfu
 obtain ⟨e1, e2⟩ := at_succ hl
 obtain ⟨p, r, hp, hp1⟩ := hh.1
 cases f with
 | zero => omega
 | succ f =>
  obtain ⟨m, h1, h2⟩ := h ts rest d f (by rw [e1]; exact hk) hr (hf.mono (by omega)) (by rw [e2]; exact hd) (by omega)
  have h2 : PF f .atom d (ts ++ rest) = _ := h2
  refine ⟨m, h1, ?_⟩
  show PF (f + 1) .ranged d (ts ++ rest) = _
  rw [← e1, hp] at hk
  obtain ⟨t, us, rfl, ht, hus⟩ := map_cons hk
  have ht : t.kind = p.1 := by rw [← ht]; rfl
  obtain ⟨k, a, x⟩ := t
  have ht : k = p.1 := ht
  rw [List.cons_append] at h2 ⊢
  rw [PF_ranged, if_neg (by omega)]
  simp only [h2, ne_eq, not_true_eq_false, if_false]
  unfold Fol at hf
  rw [if_neg (by omega), if_neg (by omega)]
theorem P2 {n : Nd} (hl : levelK n.kind ≠ 2) (hh : Hd n) (h : Good n 3) : Good n 2 := by
 intro ts rest d f hk hr hf hd hfu
 obtain ⟨e1, e2⟩ := at_succ hl
 obtain ⟨p, r, hp, hp1⟩ := hh.2
 cases f with
 | zero => omega
 | succ f =>
  obtain ⟨m, h1, h2⟩ := h ts rest d f (by rw [e1]; exact hk) hr (by unfold Fol at *; omega) (by rw [e2]; exact hd) (by omega)
  have h2 : PF f .ranged d (ts ++ rest) = _ := h2
  refine ⟨m, h1, ?_⟩
  show PF (f + 1) .part d (ts ++ rest) = _
  rw [← e1, hp] at hk
  obtain ⟨t, us, rfl, ht, hus⟩ := map_cons hk
  have ht : t.kind = p.1 := by rw [← ht]; rfl
  obtain ⟨k, a, x⟩ := t
  have ht : k = p.1 := ht
  rw [List.cons_append] at h2 ⊢
  rw [PF_part, if_pos (by omega), h2]
structure All (n : Nd) : Prop where
 g0 : Good n 0
 g1 : Good n 1
 g2 : Good n 2
 g3 : Good n 3
 g4 : Good n 4
 ge : GE n
 gt : GT n
theorem all4 {n : Nd} (hl : levelK n.kind = 4) (hh : Hd n) (h : Good n 4) : All n := by
 have g3 := P3 (by omega) hh h
 have g2 := P2 (by omega) hh g3
 have gt := GT0 (by omega) g2
 have g1 := T1 gt
 have ge := GE0 (by omega) g1
 exact ⟨E0 ge, g1, g2, g3, h, ge, gt⟩
theorem all3 {n : Nd} (hl : levelK n.kind = 3) (hh : Hd n) (h : Good n 3) : All n := by
 have g2 := P2 (by omega) hh h
 have gt := GT0 (by omega) g2
 have g1 := T1 gt
 have ge := GE0 (by omega) g1
 have g0 := E0 ge
 exact ⟨g0, g1, g2, h, mk4 (by omega) g0, ge, gt⟩
theorem all2 {n : Nd} (hl : levelK n.kind = 2) (h : Good n 2) : All n := by
 have hh : Hd n := hd_loose (by omega)
 have gt := GT0 (by omega) h
 have g1 := T1 gt
 have ge := GE0 (by omega) g1
 have g0 := E0 ge
 have g4 := mk4 (by omega) g0
 exact ⟨g0, g1, h, P3 (by omega) hh g4, g4, ge, gt⟩
theorem all1 {n : Nd} (hl : levelK n.kind = 1) (gt : GT n) : All n := by
 have hh : Hd n := hd_loose (by omega)
 have g1 := T1 gt
 have ge := GE0 (by omega) g1
 have g0 := E0 ge
 have g4 := mk4 (by omega) g0
 have g3 := P3 (by omega) hh g4
 exact ⟨g0, g1, P2 (by omega) hh g3, g3, g4, ge, gt⟩
theorem all0 {n : Nd} (hl : levelK n.kind = 0) (ge : GE n) : All n := by
 have hh : Hd n := hd_loose (by omega)
 have g0 := E0 ge
 have g4 := mk4 (by omega) g0
 have g3 := P3 (by omega) hh g4
 have g2 := P2 (by omega) hh g3
 have gt := GT0 (by omega) g2
 exact ⟨g0, T1 gt, g2, g3, g4, ge, gt⟩
end Go.TP
end
section
namespace Go.TP
open Go.AS
theorem same_0 {k a a' n : Int} {t : ByteArray} : sameS (.mk k a n t []) (.mk k a' n t []) = true := by
 rw [sameS]; simp [Nd.kind, Nd.num, Nd.text, Nd.kids, sameL]
theorem same_1 {k a a' n : Int} {t : ByteArray} {x x' : Nd} (h : sameS x x' = true) : sameS (.mk k a n t [x]) (.mk k a' n t [x']) = true := by
 rw [sameS]; simp [Nd.kind, Nd.num, Nd.text, Nd.kids, sameL, h]
theorem same_2 {k a a' n : Int} {t : ByteArray} {x x' y y' : Nd} (h : sameS x x' = true) (g : sameS y y' = true) : sameS (.mk k a n t [x, y]) (.mk k a' n t [x', y']) = true := by
 rw [sameS]; simp [Nd.kind, Nd.num, Nd.text, Nd.kids, sameL, h, g]
theorem toks_E {k a : Int} {x y : Nd} (hk : k = 2 ∨ k = 3) : toksS (.mk k a 0 ByteArray.empty [x, y]) = atS x 0 ++ sg (k + 5) :: atS y 1 := by
 rcases hk with rfl | rfl <;> rfl
theorem toks_T {a : Int} {x y : Nd} : toksS (.mk 4 a 0 ByteArray.empty [x, y]) = atS x 1 ++ sg 9 :: atS y 2 := rfl
theorem toks_R {k a : Int} {x y : Nd} (hk : k = 8 ∨ k = 9) : toksS (.mk k a 0 ByteArray.empty [x, y]) = atS x 4 ++ sg (k - 3) :: atS y 4 := by
 rcases hk with rfl | rfl <;> rfl
theorem toks_N {a : Int} {x : Nd} : toksS (.mk 5 a 0 ByteArray.empty [x]) = sg 10 :: atS x 2 := rfl
theorem toks_U {a : Int} {x : Nd} : toksS (.mk 6 a 0 ByteArray.empty [x]) = sg 5 :: atS x 4 := rfl
theorem toks_D {a : Int} {x : Nd} : toksS (.mk 7 a 0 ByteArray.empty [x]) = atS x 4 ++ [sg 5] := rfl
theorem toks_0 {a : Int} {t : ByteArray} (h : formS t = 1) : toksS (.mk 10 a 0 t []) = [wd t, sg 2, sg 3] := by
 have : toksS (.mk 10 a 0 t []) = wd t :: sg 2 :: ((if formS t = 1 then [] else if formS t = 2 then (k0 []).2 else (k0 []).2 ++ [sg 4, wd (itoaB 0)]) ++ [sg 3]) := rfl
 rw [this, if_pos h]; rfl
theorem toks_1 {a n : Int} {t : ByteArray} {x : Nd} (h : formS t = 2) : toksS (.mk 10 a n t [x]) = wd t :: sg 2 :: (atS x 0 ++ [sg 3]) := by
 have : toksS (.mk 10 a n t [x]) = wd t :: sg 2 :: ((if formS t = 1 then [] else if formS t = 2 then toksS x else toksS x ++ [sg 4, wd (itoaB n)]) ++ [sg 3]) := rfl
 rw [this, if_neg (by omega), if_pos h]; rfl
theorem toks_2 {a n : Int} {t : ByteArray} {x : Nd} (h : formS t = 3) : toksS (.mk 10 a n t [x]) = wd t :: sg 2 :: (atS x 0 ++ [sg 4, wd (itoaB n), sg 3]) := by
 have : toksS (.mk 10 a n t [x]) = wd t :: sg 2 :: ((if formS t = 1 then [] else if formS t = 2 then toksS x else toksS x ++ [sg 4, wd (itoaB n)]) ++ [sg 3]) := rfl
 rw [this, if_neg (by omega), if_neg (by omega), List.append_assoc]; rfl
theorem need_E {k a : Int} {x y : Nd} (hk : k = 2 ∨ k = 3) : needS (.mk k a 0 ByteArray.empty [x, y]) = max (needA x 0) (needA y 1) := by
 rcases hk with rfl | rfl <;> rfl
theorem need_T {a : Int} {x y : Nd} : needS (.mk 4 a 0 ByteArray.empty [x, y]) = max (needA x 1) (needA y 2) := rfl
theorem need_8 {a : Int} {x y : Nd} : needS (.mk 8 a 0 ByteArray.empty [x, y]) = max (needA x 4) (needA y 4 + 1) := rfl
theorem need_9 {a : Int} {x y : Nd} : needS (.mk 9 a 0 ByteArray.empty [x, y]) = max (needA x 4) (needA y 4) := rfl
theorem need_N {a : Int} {x : Nd} : needS (.mk 5 a 0 ByteArray.empty [x]) = needA x 2 + 1 := rfl
theorem need_U {a : Int} {x : Nd} : needS (.mk 6 a 0 ByteArray.empty [x]) = needA x 4 + 1 := rfl
theorem need_D {a : Int} {x : Nd} : needS (.mk 7 a 0 ByteArray.empty [x]) = max (needA x 4) 1 := rfl
theorem need_0 {a : Int} {t : ByteArray} (h : formS t = 1) : needS (.mk 10 a 0 t []) = 1 := by
 have : needS (.mk 10 a 0 t []) = if formS t = 1 then 1 else 0 + 1 := rfl
 rw [this, if_pos h]
theorem need_1 {a n : Int} {t : ByteArray} {x : Nd} (h : formS t ≠ 1) : needS (.mk 10 a n t [x]) = needA x 0 + 1 := by
 have : needS (.mk 10 a n t [x]) = if formS t = 1 then 1 else needS x + 1 := rfl
 rw [this, if_neg h]; rfl
theorem case_name {a : Int} {t : ByteArray} (h : isPrefixS t = true) : All (.mk 1 a 0 t []) ∧ Hd (.mk 1 a 0 t []) := by
 have hh : Hd (.mk 1 a 0 t []) := hd_word (r := []) rfl rfl
 refine ⟨all4 rfl hh ?_, hh⟩
 intro ts rest d f hk hr hf hd hfu
 have hk : ts.map key = [wd t] := hk
 obtain ⟨w, us, rfl, hw, hus⟩ := map_cons hk
 have := map_nil hus; subst this
 obtain ⟨w1, w2⟩ := key_wd hw
 obtain ⟨k, b, x⟩ := w
 have w1 : k = 1 := w1
 have w2 : x = t := w2
 subst w1; subst w2
 cases f with
 | zero => omega
 | succ f =>
  refine ⟨.mk 1 b 0 x [], same_0, ?_⟩
  show PF (f + 1) .atom d (⟨1, b, x⟩ :: rest) = _
  rw [PF_atom, if_neg (by decide), if_pos rfl, takeT_cons (by show (1 : Int) ≠ 11; decide)]
  unfold Fol at hf
  rw [if_neg (by omega), if_pos h]
theorem case_call {a n : Int} {t : ByteArray} {ks : List Nd} {r : List Ky} (h0 : formS t ≠ 0) (ht : toksS (.mk 10 a n t ks) = wd t :: sg 2 :: r) (hn : 1 ≤ needS (.mk 10 a n t ks))
  (h : ∀ (us rest : List Tk) (d : Int) (f : Nat) (w _u : Tk), us.map key = r → rest ≠ [] → Fol 4 (headT rest).kind → w.text = t → d + needS (.mk 10 a n t ks) ≤ 24 → 5 * (us.length + rest.length) + 10 ≤ f →
   ∃ m, sameS (.mk 10 a n t ks) m = true ∧ (if formS w.text = 1 then ⟨.mk 10 w.at_ 0 w.text [], (expectS 3 (us ++ rest)).1, (expectS 3 (us ++ rest)).2⟩
   else
    let q := PF f .expr (d + 1) (us ++ rest)
    if q.e ≠ none then ⟨.mk 10 w.at_ 0 w.text [q.n], q.e, q.ts⟩
    else if formS w.text = 2 then ⟨.mk 10 w.at_ 0 w.text [q.n], (expectS 3 q.ts).1, (expectS 3 q.ts).2⟩
    else
     let x := expectS 4 q.ts
     if x.1 ≠ none then ⟨.mk 10 w.at_ 0 w.text [q.n], x.1, x.2⟩
     else match numberS (headT x.2) with
      | none => ⟨.mk 10 w.at_ 0 w.text [q.n], wrongT x.2, x.2⟩
      | some k => ⟨.mk 10 w.at_ k w.text [q.n], (expectS 3 (takeT x.2)).1, (expectS 3 (takeT x.2)).2⟩ : R) = ⟨m, none, rest⟩) : All (.mk 10 a n t ks) ∧ Hd (.mk 10 a n t ks) := by
 have hh : Hd (.mk 10 a n t ks) := hd_word rfl ht
 refine ⟨all4 rfl hh ?_, hh⟩
 intro ts rest d f hk hr hf hd hfu
 rw [at_tight (n := .mk 10 a n t ks) (by show ¬ 4 < 4; omega), ht] at hk
 rw [need_tight (n := .mk 10 a n t ks) (by show ¬ 4 < 4; omega)] at hd
 obtain ⟨w, us, rfl, hw, hus⟩ := map_cons hk
 obtain ⟨u, vs, rfl, hu, hvs⟩ := map_cons hus
 obtain ⟨w1, w2⟩ := key_wd hw
 have hu := key_sg hu
 cases f with
 | zero => omega
 | succ f =>
  simp only [List.length_cons] at hfu
  obtain ⟨m, h1, h2⟩ := h vs rest d f w u hvs hr hf w2 hd (by omega)
  refine ⟨m, h1, ?_⟩
  obtain ⟨k, b, x⟩ := w
  have w1 : k = 1 := w1
  have w2 : x = t := w2
  subst w1; subst w2
  show PF (f + 1) .atom d (⟨1, b, x⟩ :: (u :: (vs ++ rest))) = _
  rw [PF_atom, if_neg (by decide), if_pos rfl, takeT_cons (by show (1 : Int) ≠ 11; decide), if_pos (by exact hu), callS_eq, if_neg h0, takeT_cons (by rw [hu]; decide)]
  unfold withinS
  rw [if_neg (by omega)]
  exact h2
theorem expect_ok {c : Tk} {k : Int} {rest : List Tk} (h : c.kind = k) (hk : k ≠ 11) : expectS k (c :: rest) = (none, rest) := by
 unfold expectS; rw [if_pos (by exact h), takeT_cons (by rw [h]; exact hk)]
theorem case_c0 {a : Int} {t : ByteArray} (h : formS t = 1) : All (.mk 10 a 0 t []) ∧ Hd (.mk 10 a 0 t []) := by
 refine case_call (by omega) (toks_0 h) (by rw [need_0 h]; omega) ?_
 intro us rest d f w u hus hr hf hw hd hfu
 obtain ⟨c, vs, rfl, hc, hvs⟩ := map_cons hus
 have := map_nil hvs; subst this
 have hc := key_sg hc
 refine ⟨.mk 10 w.at_ 0 t [], same_0, ?_⟩
 rw [if_pos (by rw [hw]; exact h), hw, List.singleton_append, expect_ok hc (by decide)]
theorem case_c1 {a n : Int} {t : ByteArray} {x : Nd} (h : formS t = 2) (hn : n = 0) (hx : All x) : All (.mk 10 a n t [x]) ∧ Hd (.mk 10 a n t [x]) := by
 subst hn
 refine case_call (by omega) (toks_1 h) (by rw [need_1 (by omega)]; omega) ?_
 intro us rest d f w u hus hr hf hw hd hfu
 rw [need_1 (by omega)] at hd
 obtain ⟨ti, cs, rfl, hti, hcs⟩ := map_app hus
 obtain ⟨c, vs, rfl, hc, hvs⟩ := map_cons hcs
 have := map_nil hvs; subst this
 have hc := key_sg hc
 simp only [List.length_append, List.length_cons, List.length_nil] at hfu
 obtain ⟨m, h1, h2⟩ := hx.g0 ti (c :: rest) (d + 1) f hti (by simp) (by show Fol 0 c.kind; rw [hc]; exact .inl rfl) (by omega) (by simp only [List.length_cons]; omega)
 have h2 : PF f .expr (d + 1) (ti ++ c :: rest) = _ := h2
 refine ⟨.mk 10 w.at_ 0 t [m], same_1 h1, ?_⟩
 rw [List.append_assoc, List.singleton_append]
 simp only [hw, h2, h, ne_eq, not_true_eq_false, if_false, expect_ok hc (by decide)]
 rfl
theorem case_c2 {a n : Int} {t : ByteArray} {x : Nd} (h : formS t = 3) (h0 : 0 ≤ n) (h1 : n ≤ 999999) (hx : All x) : All (.mk 10 a n t [x]) ∧ Hd (.mk 10 a n t [x]) := by
 refine case_call (by omega) (toks_2 h) (by rw [need_1 (by omega)]; omega) ?_
 intro us rest d f w u hus hr hf hw hd hfu
 rw [need_1 (by omega)] at hd
 obtain ⟨ti, cs, rfl, hti, hcs⟩ := map_app hus
 obtain ⟨c, vs, rfl, hc, hvs⟩ := map_cons hcs
 obtain ⟨v, vs2, rfl, hv, hvs2⟩ := map_cons hvs
 obtain ⟨z, vs3, rfl, hz, hvs3⟩ := map_cons hvs2
 have := map_nil hvs3; subst this
 have hc := key_sg hc
 have hz := key_sg hz
 obtain ⟨v1, v2⟩ := key_wd hv
 simp only [List.length_append, List.length_cons, List.length_nil] at hfu
 obtain ⟨m, g1, g2⟩ := hx.g0 ti (c :: v :: z :: rest) (d + 1) f hti (by simp) (by show Fol 0 c.kind; rw [hc]; exact .inr (.inl rfl)) (by omega) (by simp only [List.length_cons]; omega)
 have g2 : PF f .expr (d + 1) (ti ++ c :: v :: z :: rest) = _ := g2
 refine ⟨.mk 10 w.at_ n t [m], same_1 g1, ?_⟩
 have e : ti ++ [c, v, z] ++ rest = ti ++ c :: v :: z :: rest := by simp
 have e2 : headT (v :: z :: rest) = v := rfl
 rw [e]
 simp only [hw, g2, h, ne_eq, not_true_eq_false, if_false, expect_ok hc (by decide), e2, number_itoa h0 h1 v1 v2, takeT_cons (show v.kind ≠ 11 by rw [v1]; decide), expect_ok hz (by decide)]
 rfl
theorem case_N {a : Int} {x : Nd} (hx : All x) : All (.mk 5 a 0 ByteArray.empty [x]) := by
 refine all2 rfl ?_
 intro ts rest d f hk hr hf hd hfu
 rw [at_tight (n := .mk 5 a 0 ByteArray.empty [x]) (by show ¬ 2 < 2; omega), toks_N] at hk
 rw [need_tight (n := .mk 5 a 0 ByteArray.empty [x]) (by show ¬ 2 < 2; omega), need_N] at hd
 obtain ⟨o, us, rfl, ho, hus⟩ := map_cons hk
 have ho := key_sg ho
 cases f with
 | zero => omega
 | succ f =>
  simp only [List.length_cons] at hfu
  obtain ⟨m, h1, h2⟩ := hx.g2 us rest (d + 1) f hus hr hf (by omega) (by omega)
  have h2 : PF f .part (d + 1) (us ++ rest) = _ := h2
  obtain ⟨k, b, t⟩ := o
  have ho : k = 10 := ho
  subst ho
  refine ⟨.mk 5 b 0 ByteArray.empty [m], same_1 h1, ?_⟩
  show PF (f + 1) .part d (⟨10, b, t⟩ :: (us ++ rest)) = _
  rw [PF_part, if_neg (by decide), takeT_cons (by show (10 : Int) ≠ 11; decide)]
  unfold withinS
  rw [if_neg (by omega)]
  simp only [h2]
theorem case_U {a : Int} {x : Nd} (hx : All x) : All (.mk 6 a 0 ByteArray.empty [x]) ∧ Hd (.mk 6 a 0 ByteArray.empty [x]) := by
 have hh : Hd (.mk 6 a 0 ByteArray.empty [x]) := hd_three rfl toks_U (.inr (.inr rfl))
 refine ⟨all3 rfl hh ?_, hh⟩
 intro ts rest d f hk hr hf hd hfu
 rw [at_tight (n := .mk 6 a 0 ByteArray.empty [x]) (by show ¬ 3 < 3; omega), toks_U] at hk
 rw [need_tight (n := .mk 6 a 0 ByteArray.empty [x]) (by show ¬ 3 < 3; omega), need_U] at hd
 obtain ⟨o, us, rfl, ho, hus⟩ := map_cons hk
 have ho := key_sg ho
 cases f with
 | zero => omega
 | succ f =>
  simp only [List.length_cons] at hfu
  obtain ⟨m, h1, h2⟩ := hx.g4 us rest (d + 1) f hus hr (hf.mono (by omega)) (by omega) (by omega)
  have h2 : PF f .atom (d + 1) (us ++ rest) = _ := h2
  obtain ⟨k, b, t⟩ := o
  have ho : k = 5 := ho
  subst ho
  refine ⟨.mk 6 b 0 ByteArray.empty [m], same_1 h1, ?_⟩
  show PF (f + 1) .ranged d (⟨5, b, t⟩ :: (us ++ rest)) = _
  rw [PF_ranged, if_pos rfl, takeT_cons (by show (5 : Int) ≠ 11; decide)]
  unfold withinS
  rw [if_neg (by omega)]
  simp only [h2]
theorem range_head {x : Nd} (hh : Hd x) (hx : All x) {ts us : List Tk} {d : Int} {f : Nat} (hk : ts.map key = atS x 4) (hr : us ≠ []) (hf : (headT us).kind = 5 ∨ (headT us).kind = 6) (hd : d + needA x 4 ≤ 24) (hfu : 5 * (ts.length + us.length) + 1 ≤ f) :
  ∃ m, sameS x m = true ∧ PF (f + 1) .ranged d (ts ++ us) = if (headT us).kind = 5 then withinS d (headT us) (.mk 8 (headT us).at_ 0 ByteArray.empty [m]) (takeT us) fun d ts => secondS (PF f .atom d) 8 (headT us).at_ m false ts
    else if (headT us).kind = 6 then secondS (PF f .atom d) 9 (headT us).at_ m true (takeT us)
    else ⟨m, none, us⟩ := by
 obtain ⟨m, h1, h2⟩ := hx.g4 ts us d f hk hr (by unfold Fol; omega) hd (by omega)
 have h2 : PF f .atom d (ts ++ us) = _ := h2
 refine ⟨m, h1, ?_⟩
 obtain ⟨p, r, hp, hp1⟩ := hh.1
 rw [hp] at hk
 obtain ⟨t, vs, rfl, ht, hvs⟩ := map_cons hk
 have ht : t.kind = p.1 := by rw [← ht]; rfl
 obtain ⟨k, a, w⟩ := t
 have ht : k = p.1 := ht
 rw [List.cons_append] at h2 ⊢
 rw [PF_ranged, if_neg (by omega)]
 simp only [h2, ne_eq, not_true_eq_false, if_false]
theorem hd_app {x : Nd} {k a : Int} {ks : List Nd} {r : List Ky} (hl : levelK k = 3) (hh : Hd x) (e : toksS (.mk k a 0 ByteArray.empty ks) = atS x 4 ++ r) : Hd (.mk k a 0 ByteArray.empty ks) := by
 obtain ⟨p, q, hp, hp1⟩ := hh.1
 exact hd_three (n := .mk k a 0 ByteArray.empty ks) hl (p := p) (r := q ++ r) (by rw [e, hp]; rfl) (by omega)
theorem case_D {a : Int} {x : Nd} (hh : Hd x) (hx : All x) : All (.mk 7 a 0 ByteArray.empty [x]) ∧ Hd (.mk 7 a 0 ByteArray.empty [x]) := by
 have hd' : Hd (.mk 7 a 0 ByteArray.empty [x]) := hd_app rfl hh toks_D
 refine ⟨all3 rfl hd' ?_, hd'⟩
 intro ts rest d f hk hr hf hd hfu
 rw [at_tight (n := .mk 7 a 0 ByteArray.empty [x]) (by show ¬ 3 < 3; omega), toks_D] at hk
 rw [need_tight (n := .mk 7 a 0 ByteArray.empty [x]) (by show ¬ 3 < 3; omega), need_D] at hd
 obtain ⟨tx, cs, rfl, htx, hcs⟩ := map_app hk
 obtain ⟨o, us, rfl, ho, hus⟩ := map_cons hcs
 have := map_nil hus; subst this
 have ho := key_sg ho
 cases f with
 | zero => omega
 | succ f =>
  simp only [List.length_append, List.length_cons, List.length_nil] at hfu
  obtain ⟨m, h1, h2⟩ := range_head hh hx (us := o :: rest) (d := d) (f := f) htx (by simp) (.inl ho) (by omega) (by simp only [List.length_cons]; omega)
  refine ⟨.mk 7 o.at_ 0 ByteArray.empty [m], same_1 h1, ?_⟩
  have e : tx ++ [o] ++ rest = tx ++ o :: rest := by simp
  show PF (f + 1) .ranged d (tx ++ [o] ++ rest) = _
  have e2 : headT (o :: rest) = o := rfl
  rw [e, h2, e2, if_pos ho, takeT_cons (by rw [ho]; decide)]
  unfold withinS
  rw [if_neg (by omega)]
  show secondS (PF f .atom (d + 1)) 8 o.at_ m false rest = _
  unfold Fol at hf
  unfold secondS
  rw [if_pos ⟨rfl, by omega, by omega⟩]
theorem case_R {k a : Int} {x y : Nd} (hk' : k = 8 ∨ k = 9) (hh : Hd x) (hx : All x) (hy' : Hd y) (hy : All y) : All (.mk k a 0 ByteArray.empty [x, y]) ∧ Hd (.mk k a 0 ByteArray.empty [x, y]) := by
 have hl : levelK k = 3 := by rcases hk' with rfl | rfl <;> rfl
 have hd' : Hd (.mk k a 0 ByteArray.empty [x, y]) := hd_app hl hh (toks_R hk')
 refine ⟨all3 hl hd' ?_, hd'⟩
 intro ts rest d f hk hr hf hd hfu
 rw [at_tight (n := .mk k a 0 ByteArray.empty [x, y]) (by show ¬ levelK k < 3; omega), toks_R hk'] at hk
 rw [need_tight (n := .mk k a 0 ByteArray.empty [x, y]) (by show ¬ levelK k < 3; omega)] at hd
 obtain ⟨tx, cs, rfl, htx, hcs⟩ := map_app hk
 obtain ⟨o, ty, rfl, ho, hty⟩ := map_cons hcs
 have ho := key_sg ho
 obtain ⟨p, q, hp, hp1⟩ := hy'.1
 have hty2 := hty
 rw [hp] at hty2
 obtain ⟨t, vs, hte, ht, hvs⟩ := map_cons hty2
 have ht : t.kind = p.1 := by rw [← ht]; rfl
 have hhead : headT (ty ++ rest) = t := by rw [hte]; rfl
 cases f with
 | zero => omega
 | succ f =>
  simp only [List.length_append, List.length_cons] at hfu
  have e : tx ++ o :: ty ++ rest = tx ++ o :: (ty ++ rest) := by simp
  have e2 : headT (o :: (ty ++ rest)) = o := rfl
  rcases hk' with rfl | rfl
  · rw [need_8] at hd
    have ho : o.kind = 5 := ho
    obtain ⟨m, h1, h2⟩ := range_head hh hx (us := o :: (ty ++ rest)) (d := d) (f := f) htx (by simp) (.inl ho) (by omega) (by simp only [List.length_cons, List.length_append]; omega)
    obtain ⟨m', g1, g2⟩ := hy.g4 ty rest (d + 1) f hty hr (hf.mono (by omega)) (by omega) (by omega)
    have g2 : PF f .atom (d + 1) (ty ++ rest) = _ := g2
    refine ⟨.mk 8 o.at_ 0 ByteArray.empty [m, m'], same_2 h1 g1, ?_⟩
    show PF (f + 1) .ranged d (tx ++ o :: ty ++ rest) = _
    rw [e, h2, e2, if_pos ho, takeT_cons (by rw [ho]; decide)]
    unfold withinS
    rw [if_neg (by omega)]
    show secondS (PF f .atom (d + 1)) 8 o.at_ m false (ty ++ rest) = _
    unfold secondS
    rw [hhead, if_neg (fun c => by rcases hp1 with h | h <;> omega), g2]
  · rw [need_9] at hd
    have ho : o.kind = 6 := ho
    obtain ⟨m, h1, h2⟩ := range_head hh hx (us := o :: (ty ++ rest)) (d := d) (f := f) htx (by simp) (.inr ho) (by omega) (by simp only [List.length_cons, List.length_append]; omega)
    obtain ⟨m', g1, g2⟩ := hy.g4 ty rest d f hty hr (hf.mono (by omega)) (by omega) (by omega)
    have g2 : PF f .atom d (ty ++ rest) = _ := g2
    refine ⟨.mk 9 o.at_ 0 ByteArray.empty [m, m'], same_2 h1 g1, ?_⟩
    show PF (f + 1) .ranged d (tx ++ o :: ty ++ rest) = _
    rw [e, h2, e2, if_neg (by omega), if_pos ho, takeT_cons (by rw [ho]; decide)]
    unfold secondS
    rw [if_neg (fun c => by cases c.1), g2]
theorem case_T {a : Int} {x y : Nd} (hx : All x) (hy : All y) : All (.mk 4 a 0 ByteArray.empty [x, y]) := by
 refine all1 rfl ?_
 intro ts rest d f k hk hr hf hd hfu hlen
 rw [at_tight (n := .mk 4 a 0 ByteArray.empty [x, y]) (by show ¬ 1 < 1; omega), toks_T] at hk
 rw [need_tight (n := .mk 4 a 0 ByteArray.empty [x, y]) (by show ¬ 1 < 1; omega), need_T] at hd
 obtain ⟨tx, cs, rfl, htx, hcs⟩ := map_app hk
 obtain ⟨o, ty, rfl, ho, hty⟩ := map_cons hcs
 have ho : o.kind = 9 := key_sg ho
 simp only [List.length_append, List.length_cons] at hfu hlen ⊢
 obtain ⟨m, k1, h1, hk1, h2⟩ := hx.gt tx (o :: (ty ++ rest)) d f k htx (by simp) (by show Fol 2 o.kind; rw [ho]; unfold Fol; omega) (by omega) (by simp only [List.length_cons, List.length_append]; omega) (by omega)
 obtain ⟨m', g1, g2⟩ := hy.g2 ty rest d f hty hr hf (by omega) (by omega)
 have g2 : PF f .part d (ty ++ rest) = _ := g2
 have e : tx ++ o :: ty ++ rest = tx ++ o :: (ty ++ rest) := by simp
 cases k1 with
 | zero => omega
 | succ k1 =>
  have e2 : headT (o :: (ty ++ rest)) = o := rfl
  have e3 : kmT o.kind = 4 := by rw [ho]; rfl
  refine ⟨.mk 4 o.at_ 0 ByteArray.empty [m, m'], k1, same_2 h1 g1, by omega, ?_⟩
  rw [e, h2, chainS]
  simp only [e2, e3, takeT_cons (show o.kind ≠ 11 by rw [ho]; decide), g2]
  rw [if_pos ⟨trivial, by decide⟩]
theorem case_E {k0 a : Int} {x y : Nd} (hk0 : k0 = 2 ∨ k0 = 3) (hx : All x) (hy : All y) : All (.mk k0 a 0 ByteArray.empty [x, y]) := by
 have hl : levelK k0 = 0 := by rcases hk0 with rfl | rfl <;> rfl
 refine all0 hl ?_
 intro ts rest d f k hk hr hf hd hfu hlen
 rw [at_tight (n := .mk k0 a 0 ByteArray.empty [x, y]) (by show ¬ levelK k0 < 0; omega), toks_E hk0] at hk
 rw [need_tight (n := .mk k0 a 0 ByteArray.empty [x, y]) (by show ¬ levelK k0 < 0; omega), need_E hk0] at hd
 obtain ⟨tx, cs, rfl, htx, hcs⟩ := map_app hk
 obtain ⟨o, ty, rfl, ho, hty⟩ := map_cons hcs
 have ho : o.kind = k0 + 5 := key_sg ho
 simp only [List.length_append, List.length_cons] at hfu hlen ⊢
 obtain ⟨m, k1, h1, hk1, h2⟩ := hx.ge tx (o :: (ty ++ rest)) d f k htx (by simp) (by show Fol 1 o.kind; rw [ho]; unfold Fol; omega) (by omega) (by simp only [List.length_cons, List.length_append]; omega) (by omega)
 obtain ⟨m', g1, g2⟩ := hy.g1 ty rest d f hty hr hf (by omega) (by omega)
 have g2 : PF f .term d (ty ++ rest) = _ := g2
 have e : tx ++ o :: ty ++ rest = tx ++ o :: (ty ++ rest) := by simp
 cases k1 with
 | zero => omega
 | succ k1 =>
  have e2 : headT (o :: (ty ++ rest)) = o := rfl
  have e3 : kmE o.kind = k0 := by rw [ho]; rcases hk0 with rfl | rfl <;> rfl
  refine ⟨.mk k0 o.at_ 0 ByteArray.empty [m, m'], k1, same_2 h1 g1, by omega, ?_⟩
  rw [e, h2, chainS]
  simp only [e2, e3, takeT_cons (show o.kind ≠ 11 by omega), g2]
  rw [if_pos ⟨trivial, by omega⟩]
theorem right_all (n : Nd) (h : rightS n = true) : All n ∧ Hd n := by
 refine right_rec (P := fun n => All n ∧ Hd n) ?_ ?_ ?_ ?_ ?_ n h
 · intro a t ht; exact case_name ht
 · intro k a x y hk _ _ hx hy
   rcases hk with rfl | rfl | rfl | rfl | rfl
   · exact ⟨case_E (.inl rfl) hx.1 hy.1, hd_loose (by show (0 : Nat) < 3; omega)⟩
   · exact ⟨case_E (.inr rfl) hx.1 hy.1, hd_loose (by show (0 : Nat) < 3; omega)⟩
   · exact ⟨case_T hx.1 hy.1, hd_loose (by show (1 : Nat) < 3; omega)⟩
   · exact case_R (.inl rfl) hx.2 hx.1 hy.2 hy.1
   · exact case_R (.inr rfl) hx.2 hx.1 hy.2 hy.1
 · intro k a x hk _ hx
   rcases hk with rfl | rfl | rfl
   · exact ⟨case_N hx.1, hd_loose (by show (2 : Nat) < 3; omega)⟩
   · exact case_U hx.1
   · exact case_D hx.2 hx.1
 · intro a t ht; exact case_c0 ht
 · intro a n t x hn _ hx
   rcases hn with ⟨h1, h2⟩ | ⟨h1, h2, h3⟩
   · exact case_c1 h1 h2 hx.1
   · exact case_c2 h1 h2 h3 hx.1
end Go.TP
end
section
namespace Go.TP
open Go.AS
def lvn : Lv → Nat
 | .expr => 0
 | .term => 1
 | .part => 2
 | .ranged => 3
 | .atom => 4
def wK (p : Ky) : Nat := if p.1 = 1 then p.2.size else if p.1 = 5 ∨ p.1 = 6 then 2 else if p.1 = 11 then 0 else 1
def wtK : List Ky → Nat
 | [] => 0
 | p :: r => wK p + wtK r
theorem wtK_app : ∀ (a b : List Ky), wtK (a ++ b) = wtK a + wtK b
 | [], b => by rw [wtK, List.nil_append]; omega
 | p :: a, b => by rw [List.cons_append, wtK, wtK, wtK_app a b]; omega
def wtT (ts : List Tk) : Nat := wtK (ts.map key)
def lenA (n : Nd) (lv : Nat) : Nat := wtK (atS n lv)
theorem wt_take {ts : List Tk} (h : okT ts) (hk : (headT ts).kind ≠ 11) : wtT ts = wK (key (headT ts)) + wtT (takeT ts) := by
 cases ts with
 | nil => exact h.elim
 | cons t r =>
  have hk : t.kind ≠ 11 := hk
  rw [takeT_cons hk]; rfl
theorem wK_sign {t : Tk} (h1 : t.kind ≠ 1) (h2 : t.kind ≠ 11) : 1 ≤ wK (key t) := by
 have e : (key t).1 = t.kind := rfl
 unfold wK; rw [e, if_neg h1]; split
 · omega
 · omega
theorem wK_two {t : Tk} (h : t.kind = 5 ∨ t.kind = 6) : wK (key t) = 2 := by
 have e : (key t).1 = t.kind := rfl
 unfold wK; rw [e, if_neg (by omega), if_pos h]
theorem wK_word {t : Tk} (h : t.kind = 1) : wK (key t) = t.text.size := by
 have e : key t = (t.kind, t.text) := by unfold key; rw [if_pos h]
 rw [e]; unfold wK; rw [if_pos h]
theorem need_mono {n : Nd} {a b : Nat} (h : a ≤ b) : needA n a ≤ needA n b := by
 unfold needA; split <;> split <;> omega
theorem need_top (n : Nd) (a : Nat) : needA n a ≤ needA n 0 + 1 := by
 unfold needA; split <;> split <;> omega
theorem len_mono {n : Nd} {a b : Nat} (h : a ≤ b) : lenA n a ≤ lenA n b := by
 unfold lenA
 by_cases g : levelK n.kind < a
 · rw [at_loose g, at_loose (by omega)]; exact Nat.le_refl _
 · rw [at_tight g]
   by_cases g2 : levelK n.kind < b
   · rw [at_loose g2, wtK, wtK_app]; omega
   · rw [at_tight g2]; exact Nat.le_refl _
theorem len_top (n : Nd) (a : Nat) : lenA n a ≤ lenA n 0 + 2 := by
 unfold lenA
 rw [at_tight (lv := 0) (by omega)]
 by_cases g : levelK n.kind < a
 · rw [at_loose g, wtK, wtK_app]
   have e1 : wK (sg 2) = 1 := rfl
   have e2 : wtK [sg 3] = 1 := rfl
   omega
 · rw [at_tight g]; omega
def Bd (lv : Nat) (d : Int) (W : Nat) (r : R) : Prop := r.e = none → d + needA r.n lv ≤ 24 ∧ lenA r.n lv + wtT r.ts ≤ W
theorem Bd.err {lv : Nat} {d : Int} {W : Nat} {n : Nd} {x : Int × Int} {ts : List Tk} : Bd lv d W ⟨n, some x, ts⟩ := fun h => by cases h
theorem Bd.down {a b : Nat} {d : Int} {W : Nat} {r : R} (h : Bd b d W r) (hab : a ≤ b) : Bd a d W r := fun he => by
 obtain ⟨h1, h2⟩ := h he
 have := need_mono (n := r.n) hab
 have := len_mono (n := r.n) hab
 exact ⟨by omega, by omega⟩
theorem within_bd {lv : Nat} {d : Int} {W : Nat} {t : Tk} {n0 : Nd} {us : List Tk} {f : Int → List Tk → R} (hd : d ≤ 24) (hf : d + 1 ≤ 24 → Bd lv d W (f (d + 1) us)) : Bd lv d W (withinS d t n0 us f) := by
 unfold withinS
 split
 · exact .err
 · exact hf (by omega)
theorem chain_bd {part : List Tk → R} {N lv : Nat} {d : Int} {W : Nat} (hp : ∀ ts, okT ts → Inv ts (part ts)) (hq : ∀ ts, okT ts → ts.length ≤ N → Bd (lv + 1) d (wtT ts) (part ts)) (km : Int → Int)
  (hk : ∀ k, km k ≠ 0 → k ≠ 1 ∧ k ≠ 11 ∧ ∀ a x y, needA (.mk (km k) a 0 ByteArray.empty [x, y]) lv = max (needA x lv) (needA y (lv + 1)) ∧ lenA (.mk (km k) a 0 ByteArray.empty [x, y]) lv = lenA x lv + 1 + lenA y (lv + 1)) :
  ∀ (n : Nat) (r : R), okT r.ts → r.ts.length ≤ N → Bd lv d W r → Bd lv d W (chainS part km n r)
 | 0, r, _, _, h => by rw [chainS]; exact h
 | n + 1, r, h, hl, hn => by
  rw [chainS]
  split
  · rename_i hc
    have h1 := takeT_ok h
    have hl2 : (takeT r.ts).length ≤ N := Nat.le_trans h1.2 hl
    have h2 := hp _ h1.1
    obtain ⟨k1, k11, hk2⟩ := hk _ hc.2
    refine chain_bd hp hq km hk n ⟨.mk (km (headT r.ts).kind) (headT r.ts).at_ 0 ByteArray.empty [r.n, (part (takeT r.ts)).n], (part (takeT r.ts)).e, (part (takeT r.ts)).ts⟩ h2.1 (Nat.le_trans h2.2 hl2) ?_
    intro he
    obtain ⟨g1, g2⟩ := hn hc.1
    obtain ⟨g3, g4⟩ := hq _ h1.1 hl2 he
    obtain ⟨e1, e2⟩ := hk2 (headT r.ts).at_ r.n (part (takeT r.ts)).n
    have e3 := wt_take h k11
    have e4 := wK_sign k1 k11
    show d + needA (.mk (km (headT r.ts).kind) (headT r.ts).at_ 0 ByteArray.empty [r.n, (part (takeT r.ts)).n]) lv ≤ 24 ∧ lenA (.mk (km (headT r.ts).kind) (headT r.ts).at_ 0 ByteArray.empty [r.n, (part (takeT r.ts)).n]) lv + wtT (part (takeT r.ts)).ts ≤ W
    rw [e1, e2]
    exact ⟨by omega, by omega⟩
  · exact hn
theorem kmE_bd (k : Int) (h : kmE k ≠ 0) : k ≠ 1 ∧ k ≠ 11 ∧ ∀ a x y, needA (.mk (kmE k) a 0 ByteArray.empty [x, y]) 0 = max (needA x 0) (needA y (0 + 1)) ∧ lenA (.mk (kmE k) a 0 ByteArray.empty [x, y]) 0 = lenA x 0 + 1 + lenA y (0 + 1) := by
 have h2 : (k = 7 ∧ kmE k = 2) ∨ (k = 8 ∧ kmE k = 3) := by
  unfold kmE at h ⊢; split
  · rename_i e; exact .inl ⟨e, rfl⟩
  · rename_i e; rw [if_neg e] at h; split
    · rename_i e2; exact .inr ⟨e2, rfl⟩
    · rename_i e2; rw [if_neg e2] at h; exact absurd rfl h
 refine ⟨by omega, by omega, fun a x y => ?_⟩
 have hc : kmE k = 2 ∨ kmE k = 3 := by omega
 generalize kmE k = c at hc
 have hl : levelK c = 0 := by rcases hc with rfl | rfl <;> rfl
 rw [need_tight (by omega), need_E hc, lenA, at_tight (by omega), toks_E hc, wtK_app, wtK]
 refine ⟨rfl, ?_⟩
 have e : wK (sg (c + 5)) = 1 := by rcases hc with rfl | rfl <;> rfl
 rw [e]; show lenA x 0 + (1 + lenA y (0 + 1)) = _; omega
theorem kmT_bd (k : Int) (h : kmT k ≠ 0) : k ≠ 1 ∧ k ≠ 11 ∧ ∀ a x y, needA (.mk (kmT k) a 0 ByteArray.empty [x, y]) 1 = max (needA x 1) (needA y (1 + 1)) ∧ lenA (.mk (kmT k) a 0 ByteArray.empty [x, y]) 1 = lenA x 1 + 1 + lenA y (1 + 1) := by
 have h2 : k = 9 ∧ kmT k = 4 := by
  unfold kmT at h ⊢; split
  · rename_i e; exact ⟨e, rfl⟩
  · rename_i e; rw [if_neg e] at h; exact absurd rfl h
 refine ⟨by omega, by omega, fun a x y => ?_⟩
 rw [h2.2, need_tight (by show ¬ 1 < 1; omega), need_T, lenA, at_tight (by show ¬ 1 < 1; omega), toks_T, wtK_app, wtK]
 refine ⟨rfl, ?_⟩
 have e : wK (sg 9) = 1 := rfl
 rw [e]; show lenA x 1 + (1 + lenA y (1 + 1)) = _; omega
theorem number_len {t : Tk} {k : Int} (h : numberS t = some k) : t.kind = 1 ∧ (itoaB k).size ≤ t.text.size := by
 have hk := number_le h
 unfold numberS at h
 split at h
 · rename_i hc
   obtain ⟨h1, h2, h3, h4⟩ := hc
   refine ⟨h1, ?_⟩
   cases h
   have hb := (numB_le t.text.data.toList 0 h2 (Int.le_refl _)).2
   have hl : t.text.data.toList.length = t.text.size := by rw [Array.length_toList]; rfl
   rw [hl] at hb
   have e : (itoaB (numB t.text.data.toList)).size = (Lib.decDigits (numB t.text.data.toList).toNat).length := by
     unfold itoaB; rw [itoa_nat hk.1]; rfl
   rw [e]
   obtain ⟨j, hj⟩ : ∃ j, t.text.size = j + 1 := ⟨t.text.size - 1, by omega⟩
   rw [hj] at hb ⊢
   refine dec_len j _ ?_
   have hb : numB t.text.data.toList < 10 ^ (j + 1) * (0 + 1) := hb
   have e2 : ((10 : Int) ^ (j + 1)) = ((10 ^ (j + 1) : Nat) : Int) := by norm_cast
   rw [e2] at hb
   omega
 · cases h
theorem expect_bd {k : Int} {ts us : List Tk} (h : okT ts) (hk : k ≠ 1 ∧ k ≠ 11) (he : expectS k ts = (none, us)) : wtT us + 1 ≤ wtT ts := by
 unfold expectS at he
 split at he
 · rename_i hc
   have h1 := wt_take h (by omega)
   have h2 := wK_sign (t := headT ts) (by omega) (by omega)
   have e : takeT ts = us := (Prod.mk.inj he).2
   rw [e] at h1
   omega
 · exact absurd (Prod.mk.inj he).1 (by unfold wrongT; intro h; cases h)
theorem call_bd {expr : Int → List Tk → R} {d : Int} {w : Tk} {ts : List Tk} (h : okT ts) (hd : d ≤ 24) (hk : (headT ts).kind = 2) (hi : ∀ d, Inv (takeT ts) (expr d (takeT ts))) (he : d + 1 ≤ 24 → Bd 0 (d + 1) (wtT (takeT ts)) (expr (d + 1) (takeT ts))) : Bd 4 d (w.text.size + wtT ts) (callS expr d w ts) := by
 have h1 := takeT_ok h
 have ht := wt_take h (by omega)
 have ht2 : wK (key (headT ts)) = 1 := by
  have e : (key (headT ts)).1 = 2 := hk
  unfold wK; rw [e]; rfl
 have ew : ∀ (t : ByteArray), wK (wd t) = t.size := fun t => rfl
 have e2 : wK (sg 2) = 1 := rfl
 have e3 : wtK [sg 3] = 1 := rfl
 unfold callS
 simp only
 split
 · exact .err
 · rename_i h0
   refine within_bd hd fun hd1 => ?_
   have tight : ∀ a n ks, ¬ levelK (Nd.kind (.mk 10 a n w.text ks)) < 4 := fun a n ks => by show ¬ 4 < 4; omega
   split
   · rename_i h2
     intro hx
     have hx : (expectS 3 (takeT ts)).1 = none := hx
     have hb := expect_bd (k := 3) (us := (expectS 3 (takeT ts)).2) h1.1 (by decide) (by rw [← hx])
     show d + needA (.mk 10 w.at_ 0 w.text []) 4 ≤ 24 ∧ lenA (.mk 10 w.at_ 0 w.text []) 4 + wtT (expectS 3 (takeT ts)).2 ≤ _
     rw [need_tight (tight _ _ _), need_0 h2, lenA, at_tight (tight _ _ _), toks_0 h2]
     simp only [wtK, ew, e2]
     have e3' : wK (sg 3) = 1 := rfl
     rw [e3']
     exact ⟨by omega, by omega⟩
   · rename_i h2
     have hq := he hd1
     have hi1 := hi (d + 1)
     generalize expr (d + 1) (takeT ts) = q at hq hi1
     split
     · rename_i hn; exact fun h => absurd h hn
     · rename_i hn
       obtain ⟨q1, q2⟩ := hq (Classical.not_not.1 hn)
       split
       · rename_i h3
         intro hx
         have hx : (expectS 3 q.ts).1 = none := hx
         have hb := expect_bd (k := 3) (us := (expectS 3 q.ts).2) hi1.1 (by decide) (by rw [← hx])
         show d + needA (.mk 10 w.at_ 0 w.text [q.n]) 4 ≤ 24 ∧ lenA (.mk 10 w.at_ 0 w.text [q.n]) 4 + wtT (expectS 3 q.ts).2 ≤ _
         rw [need_tight (tight _ _ _), need_1 (by omega), lenA, at_tight (tight _ _ _), toks_1 h3]
         simp only [wtK, wtK_app, ew, e2]
         have e3' : wK (sg 3) = 1 := rfl
         rw [e3']
         have : wtK (atS q.n 0) = lenA q.n 0 := rfl
         exact ⟨by omega, by omega⟩
       · rename_i h3
         have h4 : formS w.text = 3 := by have := form_vals w.text; omega
         split
         · rename_i hx; exact fun h => absurd h hx
         · rename_i hx
           have hx : (expectS 4 q.ts).1 = none := Classical.not_not.1 hx
           have hb := expect_bd (k := 4) (us := (expectS 4 q.ts).2) hi1.1 (by decide) (by rw [← hx])
           have hi2 := expect_inv (k := 4) hi1.1
           split
           · exact fun h => by cases h
           · rename_i k hk
             obtain ⟨n1, n2⟩ := number_len hk
             have ht3 := wt_take hi2.1 (by omega)
             rw [wK_word n1] at ht3
             intro hx2
             have hx2 : (expectS 3 (takeT (expectS 4 q.ts).2)).1 = none := hx2
             have hb2 := expect_bd (k := 3) (us := (expectS 3 (takeT (expectS 4 q.ts).2)).2) (takeT_ok hi2.1).1 (by decide) (by rw [← hx2])
             show d + needA (.mk 10 w.at_ k w.text [q.n]) 4 ≤ 24 ∧ lenA (.mk 10 w.at_ k w.text [q.n]) 4 + wtT (expectS 3 (takeT (expectS 4 q.ts).2)).2 ≤ _
             rw [need_tight (tight _ _ _), need_1 (by omega), lenA, at_tight (tight _ _ _), toks_2 h4]
             simp only [wtK, wtK_app, ew, e2]
             have e3' : wK (sg 3) = 1 := rfl
             have e4' : wK (sg 4) = 1 := rfl
             rw [e3', e4']
             have : wtK (atS q.n 0) = lenA q.n 0 := rfl
             exact ⟨by omega, by omega⟩
theorem PF_bd : ∀ (f : Nat) (lv : Lv) (d : Int) (ts : List Tk), okT ts → 5 * ts.length + offL lv ≤ f → d ≤ 24 → Bd (lvn lv) d (wtT ts) (PF f lv d ts)
 | 0, lv, _, ts, _, h, _ => by cases lv <;> simp only [offL] at h <;> omega
 | f + 1, .expr, d, ts, h, hf, hd => by
  rw [PF]
  simp only [offL] at hf
  exact chain_bd (N := ts.length) (lv := 0) (fun us hu => PF_inv f .term d us hu) (fun us hu hl => PF_bd f .term d us hu (by simp only [offL]; omega) hd) kmE kmE_bd f _ (PF_inv f .term d ts h).1 (PF_inv f .term d ts h).2 ((PF_bd f .term d ts h (by simp only [offL]; omega) hd).down (by decide))
 | f + 1, .term, d, ts, h, hf, hd => by
  rw [PF]
  simp only [offL] at hf
  exact chain_bd (N := ts.length) (lv := 1) (fun us hu => PF_inv f .part d us hu) (fun us hu hl => PF_bd f .part d us hu (by simp only [offL]; omega) hd) kmT kmT_bd f _ (PF_inv f .part d ts h).1 (PF_inv f .part d ts h).2 ((PF_bd f .part d ts h (by simp only [offL]; omega) hd).down (by decide))
 | f + 1, .part, d, ts, h, hf, hd => by
  rw [PF]
  simp only [offL] at hf
  simp only
  split
  · exact (PF_bd f .ranged d ts h (by simp only [offL]; omega) hd).down (by decide)
  · rename_i hk
    have hk : (headT ts).kind = 10 := Classical.not_not.1 hk
    have hl := take_len h (by omega)
    have ht := wt_take h (by omega)
    have hw := wK_sign (t := headT ts) (by omega) (by omega)
    refine within_bd hd fun hd1 he => ?_
    obtain ⟨g1, g2⟩ := PF_bd f .part (d + 1) _ (takeT_ok h).1 (by simp only [offL]; omega) hd1 he
    have g1 : d + 1 + needA (PF f .part (d + 1) (takeT ts)).n 2 ≤ 24 := g1
    have g2 : lenA (PF f .part (d + 1) (takeT ts)).n 2 + wtT (PF f .part (d + 1) (takeT ts)).ts ≤ wtT (takeT ts) := g2
    show d + needA (.mk 5 (headT ts).at_ 0 ByteArray.empty [(PF f .part (d + 1) (takeT ts)).n]) 2 ≤ 24 ∧ lenA (.mk 5 (headT ts).at_ 0 ByteArray.empty [(PF f .part (d + 1) (takeT ts)).n]) 2 + wtT (PF f .part (d + 1) (takeT ts)).ts ≤ wtT ts
    generalize PF f .part (d + 1) (takeT ts) = q at g1 g2
    rw [need_tight (n := .mk 5 (headT ts).at_ 0 ByteArray.empty [q.n]) (by show ¬ 2 < 2; omega), need_N, lenA, at_tight (n := .mk 5 (headT ts).at_ 0 ByteArray.empty [q.n]) (by show ¬ 2 < 2; omega), toks_N, wtK]
    have e : wK (sg 10) = 1 := rfl
    have : wtK (atS q.n 2) = lenA q.n 2 := rfl
    exact ⟨by omega, by omega⟩
 | f + 1, .ranged, d, ts, h, hf, hd => by
  rw [PF]
  simp only [offL] at hf
  simp only
  have lt : ∀ k a ks, levelK k = 3 → ¬ levelK (Nd.kind (.mk k a 0 ByteArray.empty ks)) < 3 := fun k a ks hk => by show ¬ levelK k < 3; omega
  split
  · rename_i hk
    have hl := take_len h (by omega)
    have ht := wt_take h (by omega)
    have hw := wK_two (t := headT ts) (.inl hk)
    refine within_bd hd fun hd1 he => ?_
    obtain ⟨g1, g2⟩ := PF_bd f .atom (d + 1) _ (takeT_ok h).1 (by simp only [offL]; omega) hd1 he
    have g1 : d + 1 + needA (PF f .atom (d + 1) (takeT ts)).n 4 ≤ 24 := g1
    have g2 : lenA (PF f .atom (d + 1) (takeT ts)).n 4 + wtT (PF f .atom (d + 1) (takeT ts)).ts ≤ wtT (takeT ts) := g2
    show d + needA (.mk 6 (headT ts).at_ 0 ByteArray.empty [(PF f .atom (d + 1) (takeT ts)).n]) 3 ≤ 24 ∧ lenA (.mk 6 (headT ts).at_ 0 ByteArray.empty [(PF f .atom (d + 1) (takeT ts)).n]) 3 + wtT (PF f .atom (d + 1) (takeT ts)).ts ≤ wtT ts
    generalize PF f .atom (d + 1) (takeT ts) = q at g1 g2
    rw [need_tight (lt 6 _ _ rfl), need_U, lenA, at_tight (lt 6 _ _ rfl), toks_U, wtK]
    have e : wK (sg 5) = 2 := rfl
    have : wtK (atS q.n 4) = lenA q.n 4 := rfl
    exact ⟨by omega, by omega⟩
  · have h2 := PF_bd f .atom d ts h (by simp only [offL]; omega) hd
    have i2 := PF_inv f .atom d ts h
    have second : ∀ (d' : Int) (us : List Tk) (k a : Int) (n : Nd) (m : Bool), d' ≤ 24 → (k = 8 ∧ d' = d + 1 ∨ k = 9 ∧ d' = d ∧ m = true) → okT us → us.length ≤ ts.length → d + needA n 4 ≤ 24 → lenA n 4 + 2 + wtT us ≤ wtT ts → Bd 3 d (wtT ts) (secondS (PF f .atom d') k a n m us) := fun d' us k a n m hd' hk hu hl hn1 hn2 => by
      unfold secondS
      split
      · rename_i hc
        have hk : k = 8 ∧ d' = d + 1 := by
          rcases hk with hk | hk
          · exact hk
          · rw [hk.2.2] at hc; cases hc.1
        intro _
        show d + needA (.mk 7 a 0 ByteArray.empty [n]) 3 ≤ 24 ∧ lenA (.mk 7 a 0 ByteArray.empty [n]) 3 + wtT us ≤ wtT ts
        rw [need_tight (lt 7 _ _ rfl), need_D, lenA, at_tight (lt 7 _ _ rfl), toks_D, wtK_app]
        have e : wtK [sg 5] = 2 := rfl
        have : wtK (atS n 4) = lenA n 4 := rfl
        exact ⟨by omega, by omega⟩
      · intro he
        obtain ⟨g1, g2⟩ := PF_bd f .atom d' us hu (by simp only [offL]; omega) hd' he
        have g1 : d' + needA (PF f .atom d' us).n 4 ≤ 24 := g1
        have g2 : lenA (PF f .atom d' us).n 4 + wtT (PF f .atom d' us).ts ≤ wtT us := g2
        show d + needA (.mk k a 0 ByteArray.empty [n, (PF f .atom d' us).n]) 3 ≤ 24 ∧ lenA (.mk k a 0 ByteArray.empty [n, (PF f .atom d' us).n]) 3 + wtT (PF f .atom d' us).ts ≤ wtT ts
        generalize PF f .atom d' us = q at g1 g2
        have : wtK (atS n 4) = lenA n 4 := rfl
        have : wtK (atS q.n 4) = lenA q.n 4 := rfl
        rcases hk with ⟨rfl, hk⟩ | ⟨rfl, hk, _⟩
        · rw [need_tight (lt 8 _ _ rfl), need_8, lenA, at_tight (lt 8 _ _ rfl), toks_R (.inl rfl), wtK_app, wtK]
          have e : wK (sg (8 - 3)) = 2 := rfl
          exact ⟨by omega, by omega⟩
        · rw [need_tight (lt 9 _ _ rfl), need_9, lenA, at_tight (lt 9 _ _ rfl), toks_R (.inr rfl), wtK_app, wtK]
          have e : wK (sg (9 - 3)) = 2 := rfl
          exact ⟨by omega, by omega⟩
    generalize PF f .atom d ts = q at h2 i2
    have h3 := takeT_ok i2.1
    have l3 := Nat.le_trans h3.2 i2.2
    split
    · rename_i hn; exact fun h => absurd h hn
    · rename_i hn
      obtain ⟨q1, q2⟩ := h2 (Classical.not_not.1 hn)
      have q1 : d + needA q.n 4 ≤ 24 := q1
      have q2 : lenA q.n 4 + wtT q.ts ≤ wtT ts := q2
      split
      · rename_i hk
        have ht := wt_take i2.1 (by omega)
        have hw := wK_two (t := headT q.ts) (.inl hk)
        exact within_bd hd fun hd1 => second _ _ _ _ _ _ hd1 (.inl ⟨rfl, rfl⟩) h3.1 l3 q1 (by omega)
      · split
        · rename_i hk
          have ht := wt_take i2.1 (by omega)
          have hw := wK_two (t := headT q.ts) (.inr hk)
          exact second _ _ _ _ _ _ hd (.inr ⟨rfl, rfl, rfl⟩) h3.1 l3 q1 (by omega)
        · intro _
          have := need_mono (n := q.n) (a := 3) (b := 4) (by decide)
          have := len_mono (n := q.n) (a := 3) (b := 4) (by decide)
          show d + needA q.n 3 ≤ 24 ∧ lenA q.n 3 + wtT q.ts ≤ wtT ts
          exact ⟨by omega, by omega⟩
 | f + 1, .atom, d, ts, h, hf, hd => by
  rw [PF]
  simp only [offL] at hf
  simp only
  have h1 := takeT_ok h
  have h3 := takeT_ok h1.1
  split
  · rename_i hk
    have hl := take_len h (by omega)
    have ht := wt_take h (by omega)
    have hw := wK_sign (t := headT ts) (by omega) (by omega)
    refine within_bd hd fun hd1 => ?_
    have h2 := PF_bd f .expr (d + 1) _ h1.1 (by simp only [offL]; omega) hd1
    have i2 := PF_inv f .expr (d + 1) _ h1.1
    generalize PF f .expr (d + 1) (takeT ts) = q at h2 i2
    split
    · rename_i hn; exact fun h => absurd h hn
    · rename_i hn
      obtain ⟨q1, q2⟩ := h2 (Classical.not_not.1 hn)
      have q1 : d + 1 + needA q.n 0 ≤ 24 := q1
      have q2 : lenA q.n 0 + wtT q.ts ≤ wtT (takeT ts) := q2
      intro hx
      have hx : (expectS 3 q.ts).1 = none := hx
      have hb := expect_bd (k := 3) (us := (expectS 3 q.ts).2) i2.1 (by decide) (by rw [← hx])
      have := need_top q.n 4
      have := len_top q.n 4
      show d + needA q.n 4 ≤ 24 ∧ lenA q.n 4 + wtT (expectS 3 q.ts).2 ≤ wtT ts
      exact ⟨by omega, by omega⟩
  · split
    · rename_i hk
      have hl := take_len h (by omega)
      have ht := wt_take h (by omega)
      rw [wK_word hk] at ht
      split
      · rename_i hk2
        show Bd 4 d (wtT ts) _
        rw [ht]
        exact call_bd h1.1 hd hk2 (fun d => PF_inv f .expr d _ h3.1) fun hd1 => PF_bd f .expr (d + 1) _ h3.1 (by simp only [offL]; omega) hd1
      · split
        · intro _
          show d + needA (.mk 1 (headT ts).at_ 0 (headT ts).text []) 4 ≤ 24 ∧ lenA (.mk 1 (headT ts).at_ 0 (headT ts).text []) 4 + wtT (takeT ts) ≤ wtT ts
          have e1 : needA (.mk 1 (headT ts).at_ 0 (headT ts).text []) 4 = 0 := rfl
          have e2 : lenA (.mk 1 (headT ts).at_ 0 (headT ts).text []) 4 = (headT ts).text.size := rfl
          rw [e1, e2]
          exact ⟨by omega, by omega⟩
        · exact .err
    · exact fun h => by cases h
end Go.TP
end
section
namespace Go.TP
open Go.AS
def signB (k : Int) : ByteArray := if k = 2 then ⟨#[40]⟩ else if k = 3 then ⟨#[41]⟩ else if k = 4 then ⟨#[44]⟩ else if k = 5 then ⟨#[58, 58]⟩ else if k = 6 then ⟨#[46, 46]⟩
 else if k = 7 then ⟨#[43]⟩ else if k = 8 then ⟨#[45]⟩ else if k = 9 then ⟨#[38]⟩ else if k = 11 then ByteArray.empty else ⟨#[33]⟩
def spell (p : Ky) : ByteArray := if p.1 = 1 then p.2 else signB p.1
def catK : List Ky → ByteArray
 | [] => ByteArray.empty
 | p :: r => spell p ++ catK r
theorem catK_app : ∀ a b : List Ky, catK (a ++ b) = catK a ++ catK b
 | [], b => by rw [List.nil_append, catK, ByteArray.empty_append]
 | p :: a, b => by rw [List.cons_append, catK, catK, catK_app a b, ByteArray.append_assoc]
theorem spell_size (p : Ky) : (spell p).size = wK p := by
 unfold spell wK
 by_cases h1 : p.1 = 1
 · rw [if_pos h1, if_pos h1]
 · rw [if_neg h1, if_neg h1]
   unfold signB
   by_cases h5 : p.1 = 5
   · rw [h5]; rfl
   · by_cases h6 : p.1 = 6
     · rw [h6]; rfl
     · rw [if_neg (show ¬ (p.1 = 5 ∨ p.1 = 6) by omega), if_neg h5, if_neg h6]
       by_cases h11 : p.1 = 11
       · rw [h11]; rfl
       · rw [if_neg h11, if_neg h11]
         split
         · rfl
         · split
           · rfl
           · split
             · rfl
             · split
               · rfl
               · split
                 · rfl
                 · split <;> rfl
theorem catK_size : ∀ l : List Ky, (catK l).size = wtK l
 | [] => rfl
 | p :: r => by rw [catK, ByteArray.size_append, spell_size, catK_size r, wtK]
def textS (n : Nd) : ByteArray := catK (toksS n)
def textA (n : Nd) (lv : Nat) : ByteArray := catK (atS n lv)
def bOpen : ByteArray := ⟨#[40]⟩
def bClose : ByteArray := ⟨#[41]⟩
theorem textA_eq (n : Nd) (lv : Nat) : textA n lv = if levelK n.kind < lv then bOpen ++ textS n ++ bClose else textS n := by
 unfold textA textS
 by_cases h : levelK n.kind < lv
 · rw [if_pos h, at_loose h, catK, catK_app, catK, catK, ByteArray.append_empty, ByteArray.append_assoc]; rfl
 · rw [if_neg h, at_tight h]
theorem text_two {k a : Int} {x y : Nd} {s : Int} {i j : Nat} (h : toksS (.mk k a 0 ByteArray.empty [x, y]) = atS x i ++ sg s :: atS y j) (hs : s ≠ 1) : textS (.mk k a 0 ByteArray.empty [x, y]) = textA x i ++ signB s ++ textA y j := by
 unfold textS textA
 have e : spell (sg s) = signB s := if_neg hs
 rw [h, catK_app, catK, e, ByteArray.append_assoc]
theorem text_1 {a : Int} {t : ByteArray} : textS (.mk 1 a 0 t []) = t := by
 have : textS (.mk 1 a 0 t []) = t ++ ByteArray.empty := rfl
 rw [this, ByteArray.append_empty]
theorem text_5 {a : Int} {x : Nd} : textS (.mk 5 a 0 ByteArray.empty [x]) = ⟨#[33]⟩ ++ textA x 2 := rfl
theorem text_6 {a : Int} {x : Nd} : textS (.mk 6 a 0 ByteArray.empty [x]) = ⟨#[58, 58]⟩ ++ textA x 4 := rfl
theorem text_7 {a : Int} {x : Nd} : textS (.mk 7 a 0 ByteArray.empty [x]) = textA x 4 ++ ⟨#[58, 58]⟩ := by
 unfold textS textA
 have e : spell (sg 5) = ⟨#[58, 58]⟩ := rfl
 rw [toks_D, catK_app, catK, e, catK, ByteArray.append_empty]
theorem text_c0 {a : Int} {t : ByteArray} (h : formS t = 1) : textS (.mk 10 a 0 t []) = t ++ bOpen ++ ByteArray.empty ++ bClose := by
 unfold textS
 have e1 : spell (wd t) = t := rfl
 have e2 : spell (sg 2) = bOpen := rfl
 have e3 : spell (sg 3) = bClose := rfl
 rw [toks_0 h, catK, catK, catK, catK, e1, e2, e3]
 simp only [ByteArray.append_assoc, ByteArray.append_empty, ByteArray.empty_append]
theorem text_c1 {a n : Int} {t : ByteArray} {x : Nd} (h : formS t = 2) : textS (.mk 10 a n t [x]) = t ++ bOpen ++ textS x ++ bClose := by
 unfold textS
 have e1 : spell (wd t) = t := rfl
 have e2 : spell (sg 2) = bOpen := rfl
 have e3 : spell (sg 3) = bClose := rfl
 rw [toks_1 h, catK, catK, catK_app, catK, catK, e1, e2, e3, at_tight (by omega)]
 simp only [ByteArray.append_assoc, ByteArray.append_empty]
theorem text_c2 {a n : Int} {t : ByteArray} {x : Nd} (h : formS t = 3) : textS (.mk 10 a n t [x]) = t ++ bOpen ++ (textS x ++ ⟨#[44]⟩ ++ itoaB n) ++ bClose := by
 unfold textS
 have e1 : spell (wd t) = t := rfl
 have e2 : spell (sg 2) = bOpen := rfl
 have e3 : spell (sg 3) = bClose := rfl
 have e4 : spell (sg 4) = ⟨#[44]⟩ := rfl
 have e5 : spell (wd (itoaB n)) = itoaB n := rfl
 rw [toks_2 h, catK, catK, catK_app, catK, catK, catK, catK, e1, e2, e3, e4, e5, at_tight (by omega)]
 simp only [ByteArray.append_assoc, ByteArray.append_empty]
end Go.TP
end
section
namespace Go.TP
open Go.AS
theorem byteAt_right (a b : ByteArray) (i : Nat) : byteAt (a ++ b) (a.size + i) = byteAt b i := by
 unfold byteAt
 congr 1
 rw [ByteArray.data_append, Array.getD_eq_getD_getElem?, Array.getD_eq_getD_getElem?, Array.getElem?_append_right (by show a.data.size ≤ a.size + i; exact Nat.le_add_right _ _)]
 congr 2
 show a.size + i - a.data.size = i
 have : a.data.size = a.size := rfl
 omega
theorem byteAt_left (a b : ByteArray) (i : Nat) (h : i < a.size) : byteAt (a ++ b) i = byteAt a i := by
 unfold byteAt
 congr 1
 rw [ByteArray.data_append, Array.getD_eq_getD_getElem?, Array.getD_eq_getD_getElem?, Array.getElem?_append_left h]
def Letters (t : ByteArray) : Prop := 0 < t.size ∧ ∀ i, i < t.size → letterN (byteAt t i) = true
def NoLet (u : ByteArray) : Prop := u.size = 0 ∨ letterN (byteAt u 0) = false
theorem wordG_ok {t u : ByteArray} (h : ∀ i, i < t.size → letterN (byteAt t i) = true) (hu : NoLet u) : ∀ (f n : Nat), n ≤ t.size → t.size ≤ f + n → wordG (t ++ u) f n = t.size
 | 0, n, h1, h2 => by rw [wordG]; omega
 | f + 1, n, h1, h2 => by
  rw [wordG]
  have hs : (t ++ u).size = t.size + u.size := ByteArray.size_append
  by_cases hn : n < t.size
  · have hb : letterN (byteAt (t ++ u) (n : Int).toNat) = true := by
      rw [show (n : Int).toNat = n from rfl, byteAt_left _ _ _ hn]; exact h n hn
    rw [if_pos ⟨by omega, hb⟩]
    exact wordG_ok h hu f (n + 1) (by omega) (by omega)
  · have hn : n = t.size := by omega
    subst hn
    have hb : ¬ (((t.size : Nat) : Int) < (t ++ u).size ∧ letterN (byteAt (t ++ u) ((t.size : Nat) : Int).toNat) = true) := by
      rintro ⟨g1, g2⟩
      rcases hu with hu | hu
      · omega
      · have e := byteAt_right t u 0
        rw [show ((t.size : Nat) : Int).toNat = t.size + 0 from rfl, e, hu] at g2
        cases g2
    rw [if_neg hb]
theorem wordS_ok {t u : ByteArray} (h : Letters t) (hu : NoLet u) : wordS (t ++ u) = t.size := wordG_ok h.2 hu _ 0 (Nat.zero_le _) (by rw [ByteArray.size_append]; omega)
theorem wordS_no {s : ByteArray} (h : letterN (byteAt s 0) = false) : wordS s = 0 := by
 unfold wordS
 cases hs : s.size with
 | zero => rfl
 | succ n =>
  rw [wordG, if_neg]
  rintro ⟨_, g⟩
  rw [show (0 : Int).toNat = 0 from rfl, h] at g; cases g
theorem let_blank {c : Nat} (h : letterN c = true) : blankN c = false := by
 unfold letterN at h
 unfold blankN
 simp only [Bool.or_eq_true, Bool.and_eq_true, decide_eq_true_eq] at h
 simp only [Bool.or_eq_false_iff, decide_eq_false_iff_not]
 omega
structure TokOk (k : Int) (t u : ByteArray) : Prop where
 pos : 0 < t.size
 bl : blankN (byteAt t 0) = false
 one : oneS (t ++ u) = (k, (t.size : Int))
 ne : k ≠ 0
theorem word_tok {t u : ByteArray} (h : Letters t) (hu : NoLet u) (hk : wordedS t ≠ 0) : TokOk (wordedS t) t u := by
 refine ⟨h.1, let_blank (h.2 0 h.1), ?_, hk⟩
 unfold oneS
 have := h.1
 rw [wordS_ok h hu, if_pos (by omega)]
 have e : (t ++ u).extract 0 ((t.size : Nat) : Int).toNat = t := ByteArray.extract_append_eq_left rfl
 rw [e]
theorem sign_head (k : Int) (u : ByteArray) (h : k ≠ 11) : byteAt (signB k ++ u) 0 = byteAt (signB k) 0 := by
 refine byteAt_left _ _ _ ?_
 unfold signB
 repeat' split
 all_goals first | decide | contradiction
theorem hasP_self (p u : ByteArray) : hasP (p ++ u) p = true := by
 unfold hasP
 rw [Bool.and_eq_true, decide_eq_true_eq, decide_eq_true_eq]
 exact ⟨by rw [ByteArray.size_append]; omega, ByteArray.extract_append_eq_left rfl⟩
theorem sign_tok {k : Int} (u : ByteArray) (h : 2 ≤ k ∧ k ≤ 10) : TokOk k (signB k) u := by
 have hc : k = 2 ∨ k = 3 ∨ k = 4 ∨ k = 5 ∨ k = 6 ∨ k = 7 ∨ k = 8 ∨ k = 9 ∨ k = 10 := by omega
 have hh := sign_head k u (by omega)
 have one : letterN (byteAt (signB k) 0) = false → signC (byteAt (signB k) 0) (signB k ++ u) = (k, ((signB k).size : Int)) → oneS (signB k ++ u) = (k, ((signB k).size : Int)) := fun h1 h2 => by
  unfold oneS
  rw [wordS_no (by rw [hh]; exact h1), if_neg (by decide)]
  unfold signS
  rw [hh]; exact h2
 rcases hc with rfl | rfl | rfl | rfl | rfl | rfl | rfl | rfl | rfl
 · exact ⟨by decide, by decide, one (by decide) rfl, by decide⟩
 · exact ⟨by decide, by decide, one (by decide) rfl, by decide⟩
 · exact ⟨by decide, by decide, one (by decide) rfl, by decide⟩
 · refine ⟨by decide, by decide, one (by decide) ?_, by decide⟩
   have e : byteAt (signB 5) 0 = 58 := rfl
   have hp : hasP (signB 5 ++ u) bCC = true := hasP_self bCC u
   rw [e]; unfold signC
   rw [if_pos rfl, if_pos hp]; rfl
 · refine ⟨by decide, by decide, one (by decide) ?_, by decide⟩
   have e : byteAt (signB 6) 0 = 46 := rfl
   have hp : hasP (signB 6 ++ u) bDD = true := hasP_self bDD u
   rw [e]; unfold signC
   rw [if_neg (by decide), if_pos rfl, if_pos hp]; rfl
 · exact ⟨by decide, by decide, one (by decide) rfl, by decide⟩
 · exact ⟨by decide, by decide, one (by decide) rfl, by decide⟩
 · exact ⟨by decide, by decide, one (by decide) rfl, by decide⟩
 · exact ⟨by decide, by decide, one (by decide) rfl, by decide⟩
inductive Pc where
 | bl (b : UInt8)
 | tk (k : Int) (t : ByteArray)
def catP : List Pc → ByteArray
 | [] => ByteArray.empty
 | .bl b :: r => ⟨#[b]⟩ ++ catP r
 | .tk _ t :: r => t ++ catP r
def keysP : List Pc → List Ky
 | [] => []
 | .bl _ :: r => keysP r
 | .tk k t :: r => (k, if k = 1 then t else ByteArray.empty) :: keysP r
def LexOk : List Pc → Prop
 | [] => True
 | .bl b :: r => blankN b.toNat = true ∧ LexOk r
 | .tk k t :: r => TokOk k t (catP r) ∧ LexOk r
theorem lexG_ok : ∀ (ps : List Pc) (pre : ByteArray) (f : Nat) (out : List Tk), LexOk ps → (catP ps).size ≤ f → ∃ us, lexG (pre ++ catP ps) f pre.size out = (none, out ++ us) ∧ us.map key = keysP ps
 | [], pre, f, out, _, hf => by
  refine ⟨[], ?_, rfl⟩
  have e : pre ++ catP [] = pre := ByteArray.append_empty
  rw [e, List.append_nil]
  cases f with
  | zero => rw [lexG]
  | succ f => rw [lexG, if_neg (by omega)]
 | .bl b :: r, pre, f, out, h, hf => by
  have e1 : (catP (.bl b :: r)).size = 1 + (catP r).size := by rw [catP, ByteArray.size_append]; rfl
  cases f with
  | zero => omega
  | succ f =>
   have e2 : pre ++ catP (.bl b :: r) = (pre ++ ⟨#[b]⟩) ++ catP r := by rw [catP, ByteArray.append_assoc]
   have e3 : byteAt (pre ++ catP (.bl b :: r)) ((pre.size : Nat) : Int).toNat = b.toNat := by
    rw [show ((pre.size : Nat) : Int).toNat = pre.size + 0 from rfl, byteAt_right, catP, byteAt_left _ _ _ (show 0 < 1 from Nat.one_pos)]; rfl
   obtain ⟨us, h1, h2⟩ := lexG_ok r (pre ++ ⟨#[b]⟩) f out h.2 (by omega)
   refine ⟨us, ?_, h2⟩
   have e4 : (((pre ++ ⟨#[b]⟩ : ByteArray).size : Nat) : Int) = (pre.size : Int) + 1 := by rw [ByteArray.size_append]; rfl
   rw [lexG, if_pos (by rw [ByteArray.size_append]; omega), e3, if_pos h.1, ← e4, e2]
   exact h1
 | .tk k t :: r, pre, f, out, h, hf => by
  have e1 : (catP (.tk k t :: r)).size = t.size + (catP r).size := by rw [catP, ByteArray.size_append]
  have hp := h.1.pos
  cases f with
  | zero => omega
  | succ f =>
   have e2 : pre ++ catP (.tk k t :: r) = (pre ++ t) ++ catP r := by rw [catP, ByteArray.append_assoc]
   have e3 : byteAt (pre ++ catP (.tk k t :: r)) ((pre.size : Nat) : Int).toNat = byteAt t 0 := by
    rw [show ((pre.size : Nat) : Int).toNat = pre.size + 0 from rfl, byteAt_right, catP, byteAt_left _ _ _ hp]
   have e4 : (pre ++ catP (.tk k t :: r)).extract ((pre.size : Nat) : Int).toNat (pre ++ catP (.tk k t :: r)).size = t ++ catP r := by
    have := ByteArray.extract_append_eq_right (a := pre) (b := catP (.tk k t :: r)) (i := pre.size) (j := pre.size + (catP (.tk k t :: r)).size) rfl rfl
    rw [ByteArray.size_append]; exact this
   have e5 : (((pre ++ t : ByteArray).size : Nat) : Int) = (pre.size : Int) + (t.size : Int) := by rw [ByteArray.size_append]; omega
   have e6 : (pre ++ catP (.tk k t :: r)).extract ((pre.size : Nat) : Int).toNat ((pre.size : Int) + (t.size : Int)).toNat = t := by
    rw [show ((pre.size : Int) + (t.size : Int)).toNat = pre.size + t.size by omega, show ((pre.size : Nat) : Int).toNat = pre.size + 0 from rfl, catP, ByteArray.extract_append_size_add]
    exact ByteArray.extract_append_eq_left rfl
   obtain ⟨us, h1, h2⟩ := lexG_ok r (pre ++ t) f (out ++ [⟨k, pre.size, t⟩]) h.2 (by omega)
   refine ⟨⟨k, pre.size, t⟩ :: us, ?_, by rw [List.map_cons, h2]; rfl⟩
   rw [lexG, if_pos (by rw [ByteArray.size_append]; omega), e3, if_neg (by rw [h.1.bl]; decide)]
   simp only [e4, h.1.one]
   rw [if_neg h.1.ne, e6, ← e5, e2, h1, List.append_assoc]; rfl
theorem lexS_pieces {ps : List Pc} (h : LexOk ps) (hs : (catP ps).size ≤ 600) : ∃ us e, lexS (catP ps) = .ok (us ++ [e]) ∧ us.map key = keysP ps ∧ e.kind = 11 := by
 obtain ⟨us, h1, h2⟩ := lexG_ok ps ByteArray.empty (catP ps).size [] h (Nat.le_refl _)
 rw [ByteArray.empty_append, List.nil_append] at h1
 refine ⟨us, ⟨11, (catP ps).size, ByteArray.empty⟩, ?_, h2, rfl⟩
 have h1 : lexG (catP ps) (catP ps).size 0 [] = (none, us) := h1
 unfold lexS
 rw [if_neg (by omega), h1]
end Go.TP
end
section
namespace Go.TP
open Go.AS
theorem byteAt_mem {t : ByteArray} {i : Nat} (h : i < t.size) : ∃ b ∈ t.data.toList, byteAt t i = b.toNat := by
 refine ⟨t.data[i]'h, by simp, ?_⟩
 unfold byteAt
 rw [Array.getD_eq_getD_getElem?, Array.getElem?_eq_getElem h]; rfl
theorem letters_of {t : ByteArray} {p : UInt8 → Bool} (hp : ∀ b, p b = true → letterN b.toNat = true) (h : t.data.toList.all p = true) (h0 : 0 < t.size) : Letters t := by
 refine ⟨h0, fun i hi => ?_⟩
 obtain ⟨b, hb, e⟩ := byteAt_mem hi
 rw [e]; exact hp b (List.all_eq_true.1 h b hb)
theorem hex_let (b : UInt8) (h : isHexB b = true) : letterN b.toNat = true := by
 unfold isHexB at h
 unfold letterN
 simp only [Bool.or_eq_true, Bool.and_eq_true, decide_eq_true_eq, UInt8.le_iff_toNat_le] at *
 have e1 : (48 : UInt8).toNat = 48 := rfl
 have e2 : (57 : UInt8).toNat = 57 := rfl
 have e3 : (97 : UInt8).toNat = 97 := rfl
 have e4 : (102 : UInt8).toNat = 102 := rfl
 omega
theorem dig_let (b : UInt8) (h : isDigB b = true) : letterN b.toNat = true := by
 unfold isDigB at h
 unfold letterN
 simp only [Bool.or_eq_true, Bool.and_eq_true, decide_eq_true_eq, UInt8.le_iff_toNat_le] at *
 have e1 : (48 : UInt8).toNat = 48 := rfl
 have e2 : (57 : UInt8).toNat = 57 := rfl
 omega
theorem worded_one {t : ByteArray} (h1 : t ≠ bOr) (h2 : t ≠ bAnd) (h3 : t ≠ bNot) (h4 : t ≠ bMinus) : wordedS t = 1 := by
 unfold wordedS; rw [if_neg h1, if_neg h2, if_neg h3, if_neg h4]
def WordB (t : ByteArray) : Prop := Letters t ∧ wordedS t = 1
theorem word_prefix {t : ByteArray} (h : isPrefixS t = true) : WordB t := by
 have h' := h
 unfold isPrefixS at h
 rw [Bool.and_eq_true, Bool.and_eq_true, decide_eq_true_eq] at h
 refine ⟨letters_of hex_let h.1.1 h.1.2, worded_one ?_ ?_ ?_ ?_⟩ <;> (rintro rfl; revert h'; decide)
theorem word_itoa {n : Int} (h0 : 0 ≤ n) : WordB (itoaB n) := by
 have e : (itoaB n).data.toList = Lib.decDigits n.toNat := by unfold itoaB; rw [itoa_nat h0]
 have hd : (itoaB n).data.toList.all isDigB = true := by rw [e]; exact dec_dig _
 have hs : 0 < (itoaB n).size := by
  have : (itoaB n).size = (itoaB n).data.toList.length := by rw [Array.length_toList]; rfl
  rw [this, e]; exact dec_pos _
 refine ⟨letters_of dig_let hd hs, worded_one ?_ ?_ ?_ ?_⟩ <;> (intro h; rw [h] at hd; revert hd; decide)
theorem word_form {t : ByteArray} (h : formS t ≠ 0) : WordB t := by
 unfold formS at h
 unfold WordB Letters
 by_cases h1 : t = ⟨#[97, 108, 108]⟩ ∨ t = ⟨#[110, 111, 110, 101]⟩ ∨ t = ⟨#[109, 97, 115, 116, 101, 114]⟩
 · rcases h1 with rfl | rfl | rfl <;> decide
 · rw [if_neg h1] at h
   by_cases h2 : t = ⟨#[112, 97, 114, 101, 110, 116, 115]⟩ ∨ t = ⟨#[99, 104, 105, 108, 100, 114, 101, 110]⟩ ∨ t = ⟨#[97, 110, 99, 101, 115, 116, 111, 114, 115]⟩ ∨ t = ⟨#[100, 101, 115, 99, 101, 110, 100, 97, 110, 116, 115]⟩ ∨ t = ⟨#[104, 101, 97, 100, 115]⟩ ∨ t = ⟨#[114, 111, 111, 116, 115]⟩
   · rcases h2 with rfl | rfl | rfl | rfl | rfl | rfl <;> decide
   · rw [if_neg h2] at h
     by_cases h3 : t = ⟨#[102, 105, 114, 115, 116]⟩ ∨ t = ⟨#[108, 97, 115, 116]⟩ ∨ t = ⟨#[108, 105, 109, 105, 116]⟩
     · rcases h3 with rfl | rfl | rfl <;> decide
     · rw [if_neg h3] at h; exact absurd rfl h
def NoWd : List Ky → Prop
 | [] => True
 | q :: _ => q.1 ≠ 1
def Wf : List Ky → Prop
 | [] => True
 | p :: r => ((p.1 = 1 ∧ WordB p.2 ∧ NoWd r) ∨ (2 ≤ p.1 ∧ p.1 ≤ 10 ∧ p.2 = ByteArray.empty)) ∧ Wf r
theorem Wf.sign {k : Int} {r : List Ky} (hk : 2 ≤ k ∧ k ≤ 10) (h : Wf r) : Wf (sg k :: r) := ⟨.inr ⟨hk.1, hk.2, rfl⟩, h⟩
theorem Wf.mid {k : Int} (hk : 2 ≤ k ∧ k ≤ 10) {b : List Ky} (hb : Wf b) : ∀ {a : List Ky}, Wf a → Wf (a ++ sg k :: b)
 | [], _ => hb.sign hk
 | p :: r, h => by
  refine ⟨?_, Wf.mid hk hb h.2⟩
  rcases h.1 with ⟨h1, h2, h3⟩ | h1
  · refine .inl ⟨h1, h2, ?_⟩
    cases r with
    | nil => show k ≠ 1; omega
    | cons q r => exact h3
  · exact .inr h1
theorem Wf.br {n : Nd} (h : Wf (toksS n)) (lv : Nat) : Wf (atS n lv) := by
 by_cases g : levelK n.kind < lv
 · rw [at_loose g]; exact ((Wf.mid (by decide) (b := []) trivial h).sign (by decide))
 · rw [at_tight g]; exact h
theorem wf_right (n : Nd) (h : rightS n = true) : Wf (toksS n) := by
 refine right_rec (P := fun n => Wf (toksS n)) ?_ ?_ ?_ ?_ ?_ n h
 · intro a t ht; exact ⟨.inl ⟨rfl, word_prefix ht, trivial⟩, trivial⟩
 · intro k a x y hk _ _ hx hy
   rcases hk with rfl | rfl | rfl | rfl | rfl
   · rw [toks_E (.inl rfl)]; exact (hy.br 1).mid (by decide) (hx.br 0)
   · rw [toks_E (.inr rfl)]; exact (hy.br 1).mid (by decide) (hx.br 0)
   · rw [toks_T]; exact (hy.br 2).mid (by decide) (hx.br 1)
   · rw [toks_R (.inl rfl)]; exact (hy.br 4).mid (by decide) (hx.br 4)
   · rw [toks_R (.inr rfl)]; exact (hy.br 4).mid (by decide) (hx.br 4)
 · intro k a x hk _ hx
   rcases hk with rfl | rfl | rfl
   · rw [toks_N]; exact (hx.br 2).sign (by decide)
   · rw [toks_U]; exact (hx.br 4).sign (by decide)
   · rw [toks_D]; exact Wf.mid (by decide) (b := []) trivial (hx.br 4)
 · intro a t ht
   rw [toks_0 ht]
   exact ⟨.inl ⟨rfl, word_form (t := t) (by omega), by show (2 : Int) ≠ 1; decide⟩, Wf.sign (by decide) (Wf.sign (by decide) trivial)⟩
 · intro a n t x hn _ hx
   rcases hn with ⟨h1, h2⟩ | ⟨h1, h2, h3⟩
   · rw [toks_1 h1]
     exact ⟨.inl ⟨rfl, word_form (t := t) (by omega), by show (2 : Int) ≠ 1; decide⟩, Wf.sign (by decide) (Wf.mid (by decide) (b := []) trivial (hx.br 0))⟩
   · rw [toks_2 h1]
     have hz : Wf [wd (itoaB n), sg 3] := ⟨.inl ⟨rfl, word_itoa h2, by show (3 : Int) ≠ 1; decide⟩, Wf.sign (by decide) trivial⟩
     exact ⟨.inl ⟨rfl, word_form (t := t) (by omega), by show (2 : Int) ≠ 1; decide⟩, Wf.sign (by decide) (hz.mid (by decide) (hx.br 0))⟩
inductive Ex : Ky → List Pc → Prop
 | word (t : ByteArray) : Ex (1, t) [.tk 1 t]
 | sign (k : Int) (hk : 2 ≤ k ∧ k ≤ 10) (bs cs : List UInt8) (hb : ∀ b ∈ bs, blankN b.toNat = true) (hc : ∀ b ∈ cs, blankN b.toNat = true) : Ex (sg k) (bs.map .bl ++ .tk k (signB k) :: cs.map .bl)
 | said (k : Int) (t : ByteArray) (hk : 2 ≤ k ∧ k ≤ 10) (ht : Letters t) (hw : wordedS t = k) : Ex (sg k) [.bl 32, .tk k t, .bl 32]
inductive Exs : List Ky → List Pc → Prop
 | nil : Exs [] []
 | cons {p : Ky} {l : List Ky} {ps qs : List Pc} (h : Ex p ps) (hl : Exs l qs) : Exs (p :: l) (ps ++ qs)
theorem keys_app : ∀ a b : List Pc, keysP (a ++ b) = keysP a ++ keysP b
 | [], b => rfl
 | .bl _ :: a, b => by rw [List.cons_append, keysP, keysP, keys_app a b]
 | .tk k t :: a, b => by rw [List.cons_append, keysP, keysP, keys_app a b]; rfl
theorem catP_app : ∀ a b : List Pc, catP (a ++ b) = catP a ++ catP b
 | [], b => by rw [List.nil_append, catP, ByteArray.empty_append]
 | .bl _ :: a, b => by rw [List.cons_append, catP, catP, catP_app a b, ByteArray.append_assoc]
 | .tk k t :: a, b => by rw [List.cons_append, catP, catP, catP_app a b, ByteArray.append_assoc]
theorem keys_bl : ∀ bs : List UInt8, keysP (bs.map .bl) = []
 | [] => rfl
 | b :: bs => by rw [List.map_cons, keysP, keys_bl bs]
theorem keys_ex {p : Ky} {ps : List Pc} (h : Ex p ps) : keysP ps = [p] := by
 cases h with
 | word t => rfl
 | sign k hk bs cs hb hc => rw [keys_app, keys_bl, keysP, keys_bl, List.nil_append, if_neg (by omega)]; rfl
 | said k t hk ht hw => rw [keysP, keysP, keysP, keysP, if_neg (by omega)]; rfl
theorem keys_exs {l : List Ky} {ps : List Pc} (h : Exs l ps) : keysP ps = l := by
 induction h with
 | nil => rfl
 | cons h _ ih => rw [keys_app, keys_ex h, ih]; rfl
theorem lex_bl : ∀ {bs : List UInt8} {r : List Pc}, (∀ b ∈ bs, blankN b.toNat = true) → LexOk r → LexOk (bs.map .bl ++ r)
 | [], _, _, h => h
 | b :: _, _, hb, h => ⟨hb b (List.mem_cons_self ..), lex_bl (fun c hc => hb c (List.mem_cons_of_mem _ hc)) h⟩
theorem blank_no {b : UInt8} {u : ByteArray} (h : blankN b.toNat = true) : NoLet (⟨#[b]⟩ ++ u) := by
 refine .inr ?_
 rw [byteAt_left _ _ _ (show 0 < 1 from Nat.one_pos)]
 show letterN b.toNat = false
 cases hl : letterN b.toNat with
 | false => rfl
 | true => rw [let_blank hl] at h; cases h
theorem sign_no {k : Int} (hk : 2 ≤ k ∧ k ≤ 10) (u : ByteArray) : NoLet (signB k ++ u) := by
 refine .inr ?_
 rw [sign_head k u (by omega)]
 have hc : k = 2 ∨ k = 3 ∨ k = 4 ∨ k = 5 ∨ k = 6 ∨ k = 7 ∨ k = 8 ∨ k = 9 ∨ k = 10 := by omega
 rcases hc with rfl | rfl | rfl | rfl | rfl | rfl | rfl | rfl | rfl <;> decide
theorem no_exs {l : List Ky} {ps : List Pc} (hn : NoWd l) (h : Exs l ps) : NoLet (catP ps) := by
 cases h with
 | nil => exact .inl rfl
 | cons h hl =>
  cases h with
  | word t => exact absurd rfl hn
  | sign k hk bs cs hb hc =>
   cases bs with
   | nil => rw [catP_app]; show NoLet ((signB k ++ catP (cs.map .bl)) ++ _); rw [ByteArray.append_assoc]; exact sign_no hk _
   | cons b bs => rw [catP_app]; show NoLet ((⟨#[b]⟩ ++ catP (bs.map .bl ++ .tk k (signB k) :: cs.map .bl)) ++ _); rw [ByteArray.append_assoc]; exact blank_no (hb b (List.mem_cons_self ..))
  | said k t hk ht hw => exact blank_no (b := 32) (by decide)
theorem lex_exs {l : List Ky} {ps : List Pc} (h : Exs l ps) : Wf l → LexOk ps := by
 induction h with
 | nil => intro _; trivial
 | @cons p l ps qs h hl ih =>
  intro hw
  have ih := ih hw.2
  cases h with
  | word t =>
   rcases hw.1 with ⟨_, h2, h3⟩ | ⟨h1, _⟩
   · refine ⟨?_, ih⟩
     have := word_tok h2.1 (no_exs h3 hl) (by rw [h2.2]; decide)
     rw [h2.2] at this
     exact this
   · have h1 : (2 : Int) ≤ 1 := h1
     omega
  | sign k hk bs cs hb hc =>
   rw [List.append_assoc]
   exact lex_bl hb ⟨sign_tok _ hk, lex_bl hc ih⟩
  | said k t hk ht hw2 =>
   refine ⟨by decide, ?_, by decide, ih⟩
   have := word_tok ht (u := catP (.bl 32 :: qs)) (blank_no (by decide)) (by rw [hw2]; omega)
   rw [hw2] at this
   exact this
theorem back {n : Nd} (hr : rightS n = true) (hd : needA n 0 ≤ 24) {ps : List Pc} (h : Exs (toksS n) ps) (hs : (catP ps).size ≤ 600) :
  ∃ m us e, lexS (catP ps) = .ok (us ++ [e]) ∧ e.kind = 11 ∧ sameS n m = true ∧ PF (5 * (us ++ [e]).length + 5) .expr 0 (us ++ [e]) = ⟨m, none, [e]⟩ := by
 obtain ⟨us, e, h1, h2, h3⟩ := lexS_pieces (lex_exs h (wf_right n hr)) hs
 rw [keys_exs h] at h2
 obtain ⟨m, g1, g2⟩ := (right_all n hr).1.g0 us [e] 0 (5 * (us ++ [e]).length + 5) (by rw [at_tight (by omega)]; exact h2) (by simp) (by show Fol 0 e.kind; rw [h3]; exact .inr (.inr (.inl rfl))) (by omega) (by simp only [List.length_append, List.length_cons, List.length_nil]; omega)
 exact ⟨m, us, e, h1, h3, g1, g2⟩
end Go.TP
end
section
namespace Go.Proofs.YtpofhijgccocpaaDoor
open Go.AS Go.TP
noncomputable section
theorem signC_two (c : Nat) (s : ByteArray) : ((signC c s).1 = 5 ∨ (signC c s).1 = 6 → (signC c s).2 = 2) ∧ (signC c s).1 ≠ 1 := by
 unfold signC
 repeat' split
 all_goals exact ⟨by decide, by decide⟩
theorem worded_56 (s : ByteArray) : wordedS s ≠ 5 ∧ wordedS s ≠ 6 := by
 unfold wordedS
 repeat' split
 all_goals exact ⟨by decide, by decide⟩
theorem one_wt (s : ByteArray) (h0 : 0 < s.size) (h : (oneS s).1 ≠ 0) (a : Int) (t : ByteArray) (ht : (t.size : Int) ≤ (oneS s).2) : (wK (key ⟨(oneS s).1, a, t⟩) : Int) ≤ (oneS s).2 := by
 have h1 := one_le s h0 h
 by_cases k1 : (oneS s).1 = 1
 · rw [wK_word (t := ⟨(oneS s).1, a, t⟩) k1]; exact ht
 · unfold wK
   have e : (key ⟨(oneS s).1, a, t⟩).1 = (oneS s).1 := rfl
   rw [e, if_neg k1]
   split
   · rename_i h5
     have : (oneS s).2 = 2 := by
       unfold oneS at h5 ⊢
       by_cases hw : 0 < wordS s
       · rw [if_pos hw] at h5
         have := worded_56 (s.extract 0 (wordS s).toNat)
         have h5 : wordedS (s.extract 0 (wordS s).toNat) = 5 ∨ wordedS (s.extract 0 (wordS s).toNat) = 6 := h5
         omega
       · rw [if_neg hw] at h5 ⊢
         exact (signC_two _ _).1 h5
     rw [this]; decide
   · split <;> omega
theorem wtT_app (a b : List Tk) : wtT (a ++ b) = wtT a + wtT b := by
 unfold wtT; rw [List.map_append, wtK_app]
theorem lexG_wt (s : ByteArray) : ∀ (f : Nat) (i : Int) (out ts : List Tk), 0 ≤ i → i ≤ s.size → lexG s f i out = (none, ts) → (wtT ts : Int) ≤ wtT out + (s.size - i) := by
 intro f
 induction f with
 | zero => intro i out ts h0 h2 h; cases h; omega
 | succ f ih =>
  intro i out ts h0 h2 h
  rw [lexG] at h
  by_cases hi : i < s.size
  · rw [if_pos hi] at h
    have hr := rest_size s i h0 h2
    by_cases hb : blankN (byteAt s i.toNat) = true
    · rw [if_pos hb] at h
      have := ih (i + 1) out ts (by omega) (by omega) h
      omega
    · rw [if_neg hb] at h
      have h : (if (oneS (restS s i)).1 = 0 then (some i, []) else lexG s f (i + (oneS (restS s i)).2) (out ++ [tokAt s i])) = (none, ts) := h
      by_cases ho : (oneS (restS s i)).1 = 0
      · rw [if_pos ho] at h; cases h
      · rw [if_neg ho] at h
        have k3 := one_le (restS s i) (by omega) ho
        have := ih _ _ ts (by omega) (by omega) h
        rw [wtT_app] at this
        have k4 := one_wt (restS s i) (by omega) ho i (s.extract i.toNat (i + (oneS (restS s i)).2).toNat) (by rw [ByteArray.size_extract]; omega)
        have k5 : wtT [tokAt s i] = wK (key (tokAt s i)) := by show wK (key (tokAt s i)) + 0 = _; omega
        have k4 : (wK (key (tokAt s i)) : Int) ≤ (oneS (restS s i)).2 := k4
        omega
  · rw [if_neg hi] at h; cases h; omega
theorem lexS_wt {s : ByteArray} {ts : List Tk} (h : lexS s = .ok ts) : wtT ts ≤ s.size ∧ s.size ≤ 600 := by
 unfold lexS at h
 by_cases hs : 600 < s.size
 · rw [if_pos hs] at h; cases h
 · rw [if_neg hs] at h
   have hg := lexG_wt s s.size 0 []
   generalize lexG s s.size 0 [] = R at h hg
   obtain ⟨_ | j, us⟩ := R
   · cases h
     have := hg us (Int.le_refl _) (by omega) rfl
     rw [wtT_app]
     have e0 : wtT [] = 0 := rfl
     have e1 : wtT [⟨11, s.size, ByteArray.empty⟩] = 0 := rfl
     omega
   · cases h
theorem parse_bd {s : ByteArray} {n : Nd} (h : parseS s = .ok n) : rightS n = true ∧ fineS n ∧ needA n 0 ≤ 24 ∧ (textS n).size ≤ s.size ∧ s.size ≤ 600 := by
 unfold parseS at h
 have ho := @lexS_ok s
 have hw := @lexS_wt s
 generalize lexS s = L at h ho hw
 cases L with
 | long => cases h
 | bad i => cases h
 | ok ts =>
  have hts := ho rfl
  obtain ⟨hw1, hw2⟩ := hw rfl
  have h1 := PF_rt (5 * ts.length + 5) .expr 0 ts hts (Nat.le_refl _)
  have h2 := PF_fine (5 * ts.length + 5) .expr 0 ts hts
  have h3 := PF_bd (5 * ts.length + 5) .expr 0 ts hts (Nat.le_refl _) (by decide)
  have h : parOf (PF (5 * ts.length + 5) .expr 0 ts) = .ok n := h
  generalize PF (5 * ts.length + 5) .expr 0 ts = r at h h1 h2 h3
  obtain ⟨m, e, us⟩ := r
  cases e with
  | some ka => obtain ⟨k, a⟩ := ka; cases h
  | none =>
   have h : (if (headT us).kind = 11 then ParR.ok m else .bad 15 (headT us).at_) = .ok n := h
   split at h
   · cases h
     obtain ⟨g1, g2⟩ := h3 rfl
     have g1 : (0 : Int) + needA n 0 ≤ 24 := g1
     have g2 : lenA n 0 + wtT us ≤ wtT ts := g2
     have e : (textS n).size = lenA n 0 := by unfold textS lenA; rw [catK_size, at_tight (by omega)]
     exact ⟨h1 rfl, h2, by omega, by omega, hw2⟩
   · cases h
theorem parse_pieces {n : Nd} (hr : rightS n = true) (hd : needA n 0 ≤ 24) {ps : List Pc} (h : Exs (toksS n) ps) (hs : (catP ps).size ≤ 600) : ∃ m, parseS (catP ps) = .ok m ∧ sameS n m = true := by
 obtain ⟨m, us, e, h1, h2, h3, h4⟩ := back hr hd h hs
 refine ⟨m, ?_, h3⟩
 unfold parseS
 rw [h1]
 show parOf (PF (5 * (us ++ [e]).length + 5) .expr 0 (us ++ [e])) = _
 rw [h4]
 show (if e.kind = 11 then ParR.ok m else _) = _
 rw [if_pos h2]
end
end Go.Proofs.YtpofhijgccocpaaDoor
end
section
namespace Go.Proofs.YtpofhijgccocpaaDoor
open Go.AS Go.TP Go.RowKit Go.Sort
noncomputable section
theorem entersI (vals : Array Value) (w : World) : (callFunc fItoa vals).run Tryd.prog w = .ok (.enter fItoa vals) w := by
 have h0 : (program).run Tryd.prog w = .ok Tryd.prog w := rfl
 have hf : Tryd.prog.funcs[fItoa]? = some (fn fItoa) := fnOk fItoa (by kernel_rfl)
 have hn : ((fn fItoa).name == "runtime.NumGoroutine") = false := by kernel_rfl
 have hb : (fn fItoa).body.isNone = false := by kernel_rfl
 simp only [callFunc, Sem.run_bind, h0, Result.andThen_ok, hf, hn, hb, Bool.false_eq_true, if_false, Sem.run_pure]
theorem litsOf_ints : ∀ l : List Int, litsOf (l.map fun z => .lit (.int .u64 z)) = some (l.map fun z => .int .u64 z)
 | [] => rfl
 | z :: l => by rw [List.map_cons, litsOf, litsOf_ints l]; rfl
theorem pow_tab {E : Env} {w : World} (hg : GLr gl0 E) (hh : Holds E .nil w) : Lib.TabIs Tryd.prog w "internal/strconv.uint64pow10" .u64 Lib.pow10Tab := by
 obtain ⟨t, fz, h⟩ := (hg gPow powA rfl).tab (powL.map fun z => .int .u64 z) (litsOf_ints powL)
 have h2 := hh.imm _ _ h
 have e1 : Tryd.prog.globalNamed "internal/strconv.uint64pow10" = some gPow := by kernel_rfl
 have e2 : Lib.pow10Tab = powL := by decide +kernel
 unfold Lib.TabIs World.var?
 rw [e1, Option.bind_some, h2, e2]
theorem itoa_ok (n : Int) (h0 : -9223372036854775808 ≤ n) (h1 : n ≤ 9223372036854775807) : F fItoa [i0 n] (s0 ⟨(Lib.itoa n).toArray⟩) := by
 intro E w vals hg hh hf hv
 obtain ⟨u, us, k1, k2, rfl⟩ := hv.vs_cons_inv
 have := k1.lit_inv; subst this
 have := k2.vs_nil_inv; subst this
 refine .inl ⟨entersI _ w, (Tryd.strconv_Itoa n h0 h1 w (pow_tab hg hh)).mono ?_⟩
 rintro e w' ⟨rfl, k, os, rfl⟩
 have hb : Below w.heap.size w (grow (w.drewN k) os) :=
  ⟨rfl, rfl, rfl, by show w.heap.size ≤ (w.heap ++ os).size; rw [Array.size_append]; omega, fun j hj => by show (w.heap ++ os)[j]? = w.heap[j]?; rw [Array.getElem?_append_left hj]⟩
 obtain ⟨g1, g2⟩ := holds_below hh hb
 exact ⟨_, rfl, .z, _, E, rfl, ⟨fun l _ => rfl, fun l e he => ⟨e, he⟩⟩, .lit _, g1, g2⟩
end
end Go.Proofs.YtpofhijgccocpaaDoor
end
section
namespace Go.Proofs.YtpofhijgccocpaaDoor
open Go.AS Go.TP
noncomputable section
def sp1e (xs : List AV) (r : AV) : Sp := .pure Unit (fun _ => True) (fun _ => xs) (fun _ => r)
def gLev (os : Orc) (k a m : Int) (t : ByteArray) (ks : List AV) (r : Int) : Prop := gF XB [fLevel] fLevel os [ndV k a m t ks] (i0 r)
def spLev : Sp := .pure NV (fun _ => True) (fun v => [ndV v.k v.a v.m v.t v.ks]) (fun v => i0 (levelK v.k))
def spItoa : Sp := .pure Int (fun n => 0 ≤ n ∧ n ≤ 999999) (fun n => [i0 n]) (fun n => s0 (itoaB n))
def XT0 : WX := ((XB.add fLevel (Sp.con [spLev])).add fForm (Sp.con [spFormR])).add fItoa (Sp.con [spItoa])
def spBr (P : Nd → Prop) : Sp := .pure (Nd × Nat) (fun q => P q.1) (fun q => [encP q.1, i0 q.2]) (fun q => s0 (textA q.1 q.2))
def gBr (os : Orc) (n : Nd) (lv : Nat) (s r : ByteArray) : Prop := gF (XT0.add fTextN (Sp.con [sp1e [encP n] (s0 s)])) [fBrackN] fBrackN os [encP n, i0 lv] (s0 r)
def gIn (X : WX) (os : Orc) (a m : Int) (t : ByteArray) (ks : List AV) (r : ByteArray) : Prop := gF X [fInnerN] fInnerN os [ndV 10 a m t ks] (s0 r)
def gIn0 (os : Orc) (a m : Int) (t : ByteArray) (ks : List AV) (r : ByteArray) : Prop := gIn XT0 os a m t ks r
def gIn1 (os : Orc) (a m : Int) (t : ByteArray) (x : Nd) (s r : ByteArray) : Prop := gIn (XT0.add fTextN (Sp.con [sp1e [encP x] (s0 s)])) os a m t [encP x] r
def gIn2 (os : Orc) (a m : Int) (t : ByteArray) (x : Nd) (s r : ByteArray) : Prop := gIn (XT0.add fTextN (Sp.con [sp1e [encP x] (s0 s)])) os a m t [encP x] r
def XT1 (P : Nd → Prop) : WX := XT0.add fBrackN (Sp.con [spBr P])
def gTx (X : WX) (os : Orc) (k a m : Int) (t : ByteArray) (ks : List AV) (r : ByteArray) : Prop := gF X [fTextN] fTextN os [ndV k a m t ks] (s0 r)
def gTxN (os : Orc) (a m : Int) (t : ByteArray) (ks : List AV) (r : ByteArray) : Prop := gTx XT0 os 1 a m t ks r
def gTx2 (os : Orc) (P : Nd → Prop) (a : Int) (x y : Nd) (r : ByteArray) : Prop := gTx (XT1 P) os 2 a 0 ByteArray.empty [encP x, encP y] r
def gTx3 (os : Orc) (P : Nd → Prop) (a : Int) (x y : Nd) (r : ByteArray) : Prop := gTx (XT1 P) os 3 a 0 ByteArray.empty [encP x, encP y] r
def gTx4 (os : Orc) (P : Nd → Prop) (a : Int) (x y : Nd) (r : ByteArray) : Prop := gTx (XT1 P) os 4 a 0 ByteArray.empty [encP x, encP y] r
def gTx8 (os : Orc) (P : Nd → Prop) (a : Int) (x y : Nd) (r : ByteArray) : Prop := gTx (XT1 P) os 8 a 0 ByteArray.empty [encP x, encP y] r
def gTx9 (os : Orc) (P : Nd → Prop) (a : Int) (x y : Nd) (r : ByteArray) : Prop := gTx (XT1 P) os 9 a 0 ByteArray.empty [encP x, encP y] r
def gTx5 (os : Orc) (P : Nd → Prop) (a : Int) (x : Nd) (r : ByteArray) : Prop := gTx (XT1 P) os 5 a 0 ByteArray.empty [encP x] r
def gTx6 (os : Orc) (P : Nd → Prop) (a : Int) (x : Nd) (r : ByteArray) : Prop := gTx (XT1 P) os 6 a 0 ByteArray.empty [encP x] r
def gTx7 (os : Orc) (P : Nd → Prop) (a : Int) (x : Nd) (r : ByteArray) : Prop := gTx (XT1 P) os 7 a 0 ByteArray.empty [encP x] r
def gTxC (os : Orc) (a m : Int) (t : ByteArray) (ks : List AV) (i r : ByteArray) : Prop := gTx (XT0.add fInnerN (Sp.con [sp1e [ndV 10 a m t ks] (s0 i)])) os 10 a m t ks r
def gPr (os : Orc) (n : Nd) (b : Bool) (s r : ByteArray) : Prop := gF ((XB.add fRight (Sp.con [sp1e [encP n] (b0 b)])).add fTextN (Sp.con [sp1e [encP n] (s0 s)])) [fPrint] fPrint os [encP n] (s0 r)
end
end Go.Proofs.YtpofhijgccocpaaDoor
end
section
namespace Go.Proofs.YtpofhijgccocpaaDoor
open Go Go.AS Go.TP
def ogLev : Orc := Orc.s (Orc.t Orc.z) (Orc.s Orc.z (Orc.s Orc.z (Orc.s Orc.z (Orc.s (Orc.t Orc.z) (Orc.s (Orc.t Orc.z) (Orc.s (Orc.t Orc.z) (Orc.s Orc.z Orc.z)))))))
theorem gLev_vc (k a m : Int) (t : ByteArray) (ks : List AV) (r : Int) : gLev ogLev k a m t ks r = (let z1 := (i0 (3 : Int)); ((k == (2 : Int)) = true → Yt (Wk (i0 (0 : Int)) (i0 r) ∧ SameH (hpL []) (hpL []))) ∧ ((k == (2 : Int)) = false → ((k == (3 : Int)) = true → Wk (i0 (0 : Int)) (i0 r) ∧ SameH (hpL []) (hpL [])) ∧ ((k == (3 : Int)) = false → ((k == (4 : Int)) = true → Wk (i0 (1 : Int)) (i0 r) ∧ SameH (hpL []) (hpL [])) ∧ ((k == (4 : Int)) = false → ((k == (5 : Int)) = true → Wk (i0 (2 : Int)) (i0 r) ∧ SameH (hpL []) (hpL [])) ∧ ((k == (5 : Int)) = false → ((k == (6 : Int)) = true → Yt (Wk z1 (i0 r) ∧ SameH (hpL []) (hpL []))) ∧ ((k == (6 : Int)) = false → ((k == (7 : Int)) = true → Yt (Wk z1 (i0 r) ∧ SameH (hpL []) (hpL []))) ∧ ((k == (7 : Int)) = false → ((k == (8 : Int)) = true → Yt (Wk z1 (i0 r) ∧ SameH (hpL []) (hpL []))) ∧ ((k == (8 : Int)) = false → ((k == (9 : Int)) = true → Wk z1 (i0 r) ∧ SameH (hpL []) (hpL [])) ∧ ((k == (9 : Int)) = false → Wk (i0 (4 : Int)) (i0 r) ∧ SameH (hpL []) (hpL [])))))))))) := by kernel_rfl
theorem gBr_vc (n : Nd) (lv : Nat) (s r : ByteArray) : gBr (Orc.s Orc.z Orc.z) n lv s r = (let z1 := (True ∧ Wks [encP n] [encP n] ∧ hpL [] = hpL []); ∃ (i1 : NV), (True ∧ Wks [encP n] [AV.agg [i0 (NV.k i1), i0 (NV.a i1), i0 (NV.m i1), s0 (NV.t i1), AV.lst false 5 (NV.ks i1)]] ∧ hpL [] = hpL []) ∧ (decide ((↑(levelK (NV.k i1)) : Int) < (↑lv : Int)) = true → ∃ (_ : Unit), z1 ∧ decide (1 + ByteArray.size s ≤ 9223372036854775807) = true ∧ decide (ByteArray.size (⟨⟨[(40 : UInt8)]⟩⟩ ++ s) + 1 ≤ 9223372036854775807) = true ∧ Wk (s0 (⟨⟨[(40 : UInt8)]⟩⟩ ++ s ++ ⟨⟨[(41 : UInt8)]⟩⟩)) (s0 r) ∧ SameH (hpL []) (hpL [])) ∧ (decide ((↑(levelK (NV.k i1)) : Int) < (↑lv : Int)) = false → ∃ (_ : Unit), z1 ∧ Wk (s0 s) (s0 r) ∧ SameH (hpL []) (hpL []))) := by kernel_rfl
theorem gIn0_vc (a m : Int) (t : ByteArray) (ks : List AV) (r : ByteArray) : gIn0 (Orc.t Orc.z) a m t ks r = (∃ (i1 : ByteArray), (True ∧ Wks [s0 t] [s0 i1] ∧ hpL [] = hpL []) ∧ (formS i1 == (1 : Int)) = true ∧ Wk (s0 ⟨⟨[]⟩⟩) (s0 r) ∧ SameH (hpL []) (hpL [])) := by kernel_rfl
theorem gIn1_vc (a m : Int) (t : ByteArray) (x : Nd) (s r : ByteArray) : gIn1 (Orc.f (Orc.t Orc.z)) a m t x s r = (∃ (i1 : ByteArray), (True ∧ Wks [s0 t] [s0 i1] ∧ hpL [] = hpL []) ∧ (formS i1 == (1 : Int)) = false ∧ (formS i1 == (2 : Int)) = true ∧ U1 [encP x] [] (Wk (s0 s) (s0 r) ∧ SameH (hpL []) (hpL []))) := by kernel_rfl
theorem gIn2_vc (a m : Int) (t : ByteArray) (x : Nd) (s r : ByteArray) : gIn2 (Orc.f (Orc.f Orc.z)) a m t x s r = (∃ (i1 : ByteArray), (True ∧ Wks [s0 t] [s0 i1] ∧ hpL [] = hpL []) ∧ (formS i1 == (1 : Int)) = false ∧ (formS i1 == (2 : Int)) = false ∧ U1 [encP x] [] (decide (ByteArray.size s + 1 ≤ 9223372036854775807) = true ∧ ∃ (i3 : Int), (((0 : Int) ≤ i3 ∧ i3 ≤ (999999 : Int)) ∧ Wks [i0 m] [i0 i3] ∧ hpL [] = hpL []) ∧ decide (ByteArray.size (s ++ ⟨⟨[(44 : UInt8)]⟩⟩) + ByteArray.size (itoaB i3) ≤ 9223372036854775807) = true ∧ Wk (s0 (s ++ ⟨⟨[(44 : UInt8)]⟩⟩ ++ itoaB i3)) (s0 r) ∧ SameH (hpL []) (hpL []))) := by kernel_rfl
def ogTxN : Orc := HF (HF (Orc.f Orc.z))
theorem gTxN_vc (a m : Int) (t : ByteArray) (ks : List AV) (r : ByteArray) : gTxN ogTxN a m t ks r = (Nf4 (Nf4 (Nf (Wk (s0 t) (s0 r) ∧ SameH (hpL []) (hpL []))))) := by kernel_rfl
theorem gTx2_vc (P : Nd → Prop) (a : Int) (x y : Nd) (r : ByteArray) : gTx2 (Orc.t Orc.z) P a x y r = (Yt (∃ (i1 : Nd × Nat), (P (Prod.fst i1) ∧ Wks [encP x, i0 (0 : Int)] [AV.agg [i0 (Nd.kind (Prod.fst i1)), i0 (Nd.at_ (Prod.fst i1)), i0 (Nd.num (Prod.fst i1)), s0 (Nd.text (Prod.fst i1)), AV.lst false 5 (encL (Nd.kids (Prod.fst i1)))], i0 (↑(Prod.snd i1) : Int)] ∧ hpL [] = hpL []) ∧ decide (ByteArray.size (textA (Prod.fst i1) (Prod.snd i1)) + 1 ≤ 9223372036854775807) = true ∧ ∃ (i2 : Nd × Nat), (P (Prod.fst i2) ∧ Wks [encP y, i0 (1 : Int)] [AV.agg [i0 (Nd.kind (Prod.fst i2)), i0 (Nd.at_ (Prod.fst i2)), i0 (Nd.num (Prod.fst i2)), s0 (Nd.text (Prod.fst i2)), AV.lst false 5 (encL (Nd.kids (Prod.fst i2)))], i0 (↑(Prod.snd i2) : Int)] ∧ hpL [] = hpL []) ∧ decide (ByteArray.size (textA (Prod.fst i1) (Prod.snd i1) ++ ⟨⟨[(43 : UInt8)]⟩⟩) + ByteArray.size (textA (Prod.fst i2) (Prod.snd i2)) ≤ 9223372036854775807) = true ∧ Wk (s0 (textA (Prod.fst i1) (Prod.snd i1) ++ ⟨⟨[(43 : UInt8)]⟩⟩ ++ textA (Prod.fst i2) (Prod.snd i2))) (s0 r) ∧ SameH (hpL []) (hpL []))) := by kernel_rfl
theorem gTx3_vc (P : Nd → Prop) (a : Int) (x y : Nd) (r : ByteArray) : gTx3 (Orc.f (Orc.t Orc.z)) P a x y r = (Nf (Yt (∃ (i1 : Nd × Nat), (P (Prod.fst i1) ∧ Wks [encP x, i0 (0 : Int)] [AV.agg [i0 (Nd.kind (Prod.fst i1)), i0 (Nd.at_ (Prod.fst i1)), i0 (Nd.num (Prod.fst i1)), s0 (Nd.text (Prod.fst i1)), AV.lst false 5 (encL (Nd.kids (Prod.fst i1)))], i0 (↑(Prod.snd i1) : Int)] ∧ hpL [] = hpL []) ∧ decide (ByteArray.size (textA (Prod.fst i1) (Prod.snd i1)) + 1 ≤ 9223372036854775807) = true ∧ ∃ (i2 : Nd × Nat), (P (Prod.fst i2) ∧ Wks [encP y, i0 (1 : Int)] [AV.agg [i0 (Nd.kind (Prod.fst i2)), i0 (Nd.at_ (Prod.fst i2)), i0 (Nd.num (Prod.fst i2)), s0 (Nd.text (Prod.fst i2)), AV.lst false 5 (encL (Nd.kids (Prod.fst i2)))], i0 (↑(Prod.snd i2) : Int)] ∧ hpL [] = hpL []) ∧ decide (ByteArray.size (textA (Prod.fst i1) (Prod.snd i1) ++ ⟨⟨[(45 : UInt8)]⟩⟩) + ByteArray.size (textA (Prod.fst i2) (Prod.snd i2)) ≤ 9223372036854775807) = true ∧ Wk (s0 (textA (Prod.fst i1) (Prod.snd i1) ++ ⟨⟨[(45 : UInt8)]⟩⟩ ++ textA (Prod.fst i2) (Prod.snd i2))) (s0 r) ∧ SameH (hpL []) (hpL [])))) := by kernel_rfl
theorem gTx4_vc (P : Nd → Prop) (a : Int) (x y : Nd) (r : ByteArray) : gTx4 (Orc.f (Orc.f (Orc.t Orc.z))) P a x y r = (Nf (Nf (Yt (∃ (i1 : Nd × Nat), (P (Prod.fst i1) ∧ Wks [encP x, i0 (1 : Int)] [AV.agg [i0 (Nd.kind (Prod.fst i1)), i0 (Nd.at_ (Prod.fst i1)), i0 (Nd.num (Prod.fst i1)), s0 (Nd.text (Prod.fst i1)), AV.lst false 5 (encL (Nd.kids (Prod.fst i1)))], i0 (↑(Prod.snd i1) : Int)] ∧ hpL [] = hpL []) ∧ decide (ByteArray.size (textA (Prod.fst i1) (Prod.snd i1)) + 1 ≤ 9223372036854775807) = true ∧ ∃ (i2 : Nd × Nat), (P (Prod.fst i2) ∧ Wks [encP y, i0 (2 : Int)] [AV.agg [i0 (Nd.kind (Prod.fst i2)), i0 (Nd.at_ (Prod.fst i2)), i0 (Nd.num (Prod.fst i2)), s0 (Nd.text (Prod.fst i2)), AV.lst false 5 (encL (Nd.kids (Prod.fst i2)))], i0 (↑(Prod.snd i2) : Int)] ∧ hpL [] = hpL []) ∧ decide (ByteArray.size (textA (Prod.fst i1) (Prod.snd i1) ++ ⟨⟨[(38 : UInt8)]⟩⟩) + ByteArray.size (textA (Prod.fst i2) (Prod.snd i2)) ≤ 9223372036854775807) = true ∧ Wk (s0 (textA (Prod.fst i1) (Prod.snd i1) ++ ⟨⟨[(38 : UInt8)]⟩⟩ ++ textA (Prod.fst i2) (Prod.snd i2))) (s0 r) ∧ SameH (hpL []) (hpL []))))) := by kernel_rfl
def ogTx8 : Orc := HF (Orc.f (Orc.f (Orc.t Orc.z)))
theorem gTx8_vc (P : Nd → Prop) (a : Int) (x y : Nd) (r : ByteArray) : gTx8 ogTx8 P a x y r = (Nf4 (Nf (Nf (Yt (∃ (i1 : Nd × Nat), (P (Prod.fst i1) ∧ Wks [encP x, i0 (4 : Int)] [AV.agg [i0 (Nd.kind (Prod.fst i1)), i0 (Nd.at_ (Prod.fst i1)), i0 (Nd.num (Prod.fst i1)), s0 (Nd.text (Prod.fst i1)), AV.lst false 5 (encL (Nd.kids (Prod.fst i1)))], i0 (↑(Prod.snd i1) : Int)] ∧ hpL [] = hpL []) ∧ decide (ByteArray.size (textA (Prod.fst i1) (Prod.snd i1)) + 2 ≤ 9223372036854775807) = true ∧ ∃ (i2 : Nd × Nat), (P (Prod.fst i2) ∧ Wks [encP y, i0 (4 : Int)] [AV.agg [i0 (Nd.kind (Prod.fst i2)), i0 (Nd.at_ (Prod.fst i2)), i0 (Nd.num (Prod.fst i2)), s0 (Nd.text (Prod.fst i2)), AV.lst false 5 (encL (Nd.kids (Prod.fst i2)))], i0 (↑(Prod.snd i2) : Int)] ∧ hpL [] = hpL []) ∧ decide (ByteArray.size (textA (Prod.fst i1) (Prod.snd i1) ++ bCC) + ByteArray.size (textA (Prod.fst i2) (Prod.snd i2)) ≤ 9223372036854775807) = true ∧ Wk (s0 (textA (Prod.fst i1) (Prod.snd i1) ++ bCC ++ textA (Prod.fst i2) (Prod.snd i2))) (s0 r) ∧ SameH (hpL []) (hpL [])))))) := by kernel_rfl
def ogTx9 : Orc := HF (Orc.f (Orc.f (Orc.f (Orc.t Orc.z))))
theorem gTx9_vc (P : Nd → Prop) (a : Int) (x y : Nd) (r : ByteArray) : gTx9 ogTx9 P a x y r = (Nf4 (Nf (Nf (Nf (Yt (∃ (i1 : Nd × Nat), (P (Prod.fst i1) ∧ Wks [encP x, i0 (4 : Int)] [AV.agg [i0 (Nd.kind (Prod.fst i1)), i0 (Nd.at_ (Prod.fst i1)), i0 (Nd.num (Prod.fst i1)), s0 (Nd.text (Prod.fst i1)), AV.lst false 5 (encL (Nd.kids (Prod.fst i1)))], i0 (↑(Prod.snd i1) : Int)] ∧ hpL [] = hpL []) ∧ decide (ByteArray.size (textA (Prod.fst i1) (Prod.snd i1)) + 2 ≤ 9223372036854775807) = true ∧ ∃ (i2 : Nd × Nat), (P (Prod.fst i2) ∧ Wks [encP y, i0 (4 : Int)] [AV.agg [i0 (Nd.kind (Prod.fst i2)), i0 (Nd.at_ (Prod.fst i2)), i0 (Nd.num (Prod.fst i2)), s0 (Nd.text (Prod.fst i2)), AV.lst false 5 (encL (Nd.kids (Prod.fst i2)))], i0 (↑(Prod.snd i2) : Int)] ∧ hpL [] = hpL []) ∧ decide (ByteArray.size (textA (Prod.fst i1) (Prod.snd i1) ++ bDD) + ByteArray.size (textA (Prod.fst i2) (Prod.snd i2)) ≤ 9223372036854775807) = true ∧ Wk (s0 (textA (Prod.fst i1) (Prod.snd i1) ++ bDD ++ textA (Prod.fst i2) (Prod.snd i2))) (s0 r) ∧ SameH (hpL []) (hpL []))))))) := by kernel_rfl
def ogTx5 : Orc := Orc.f (Orc.f (Orc.f (Orc.t Orc.z)))
theorem gTx5_vc (P : Nd → Prop) (a : Int) (x : Nd) (r : ByteArray) : gTx5 ogTx5 P a x r = (Nf (Nf (Nf (Yt (∃ (i1 : Nd × Nat), (P (Prod.fst i1) ∧ Wks [encP x, i0 (2 : Int)] [AV.agg [i0 (Nd.kind (Prod.fst i1)), i0 (Nd.at_ (Prod.fst i1)), i0 (Nd.num (Prod.fst i1)), s0 (Nd.text (Prod.fst i1)), AV.lst false 5 (encL (Nd.kids (Prod.fst i1)))], i0 (↑(Prod.snd i1) : Int)] ∧ hpL [] = hpL []) ∧ decide (1 + ByteArray.size (textA (Prod.fst i1) (Prod.snd i1)) ≤ 9223372036854775807) = true ∧ Wk (s0 (⟨⟨[(33 : UInt8)]⟩⟩ ++ textA (Prod.fst i1) (Prod.snd i1))) (s0 r) ∧ SameH (hpL []) (hpL [])))))) := by kernel_rfl
def ogTx6 : Orc := HF (Orc.t Orc.z)
theorem gTx6_vc (P : Nd → Prop) (a : Int) (x : Nd) (r : ByteArray) : gTx6 ogTx6 P a x r = (Nf4 (Yt (∃ (i1 : Nd × Nat), (P (Prod.fst i1) ∧ Wks [encP x, i0 (4 : Int)] [AV.agg [i0 (Nd.kind (Prod.fst i1)), i0 (Nd.at_ (Prod.fst i1)), i0 (Nd.num (Prod.fst i1)), s0 (Nd.text (Prod.fst i1)), AV.lst false 5 (encL (Nd.kids (Prod.fst i1)))], i0 (↑(Prod.snd i1) : Int)] ∧ hpL [] = hpL []) ∧ decide (2 + ByteArray.size (textA (Prod.fst i1) (Prod.snd i1)) ≤ 9223372036854775807) = true ∧ Wk (s0 (bCC ++ textA (Prod.fst i1) (Prod.snd i1))) (s0 r) ∧ SameH (hpL []) (hpL [])))) := by kernel_rfl
def ogTx7 : Orc := HF (Orc.f (Orc.t Orc.z))
theorem gTx7_vc (P : Nd → Prop) (a : Int) (x : Nd) (r : ByteArray) : gTx7 ogTx7 P a x r = (Nf4 (Nf (Yt (∃ (i1 : Nd × Nat), (P (Prod.fst i1) ∧ Wks [encP x, i0 (4 : Int)] [AV.agg [i0 (Nd.kind (Prod.fst i1)), i0 (Nd.at_ (Prod.fst i1)), i0 (Nd.num (Prod.fst i1)), s0 (Nd.text (Prod.fst i1)), AV.lst false 5 (encL (Nd.kids (Prod.fst i1)))], i0 (↑(Prod.snd i1) : Int)] ∧ hpL [] = hpL []) ∧ decide (ByteArray.size (textA (Prod.fst i1) (Prod.snd i1)) + 2 ≤ 9223372036854775807) = true ∧ Wk (s0 (textA (Prod.fst i1) (Prod.snd i1) ++ bCC)) (s0 r) ∧ SameH (hpL []) (hpL []))))) := by kernel_rfl
def ogTxC : Orc := HF (HF (Orc.t Orc.z))
theorem gTxC_vc (a m : Int) (t : ByteArray) (ks : List AV) (i r : ByteArray) : gTxC ogTxC a m t ks i r = (let z1 := [AV.agg [i0 (10 : Int), i0 a, i0 m, s0 t, AV.lst false 5 ks]]; Nf4 (Nf4 (Yt (decide (ByteArray.size t + 1 ≤ 9223372036854775807) = true ∧ U1 z1 [] (decide (ByteArray.size (t ++ ⟨⟨[(40 : UInt8)]⟩⟩) + ByteArray.size i ≤ 9223372036854775807) = true ∧ decide (ByteArray.size (t ++ ⟨⟨[(40 : UInt8)]⟩⟩ ++ i) + 1 ≤ 9223372036854775807) = true ∧ Wk (s0 (t ++ ⟨⟨[(40 : UInt8)]⟩⟩ ++ i ++ ⟨⟨[(41 : UInt8)]⟩⟩)) (s0 r) ∧ SameH (hpL []) (hpL [])))))) := by kernel_rfl
theorem gPr_vc (n : Nd) (b : Bool) (s r : ByteArray) : gPr (Orc.s Orc.z Orc.z) n b s r = (let z1 := (True ∧ Wks [encP n] [encP n] ∧ hpL [] = hpL []); ∃ (_ : Unit), z1 ∧ ((!b) = true → Wk (s0 ⟨⟨[]⟩⟩) (s0 r) ∧ SameH (hpL []) (hpL [])) ∧ ((!b) = false → ∃ (_ : Unit), z1 ∧ Wk (s0 s) (s0 r) ∧ SameH (hpL []) (hpL []))) := by kernel_rfl
end Go.Proofs.YtpofhijgccocpaaDoor
end
section
namespace Go.Proofs.YtpofhijgccocpaaDoor
open Go.AS Go.TP
noncomputable section
theorem val1e {f : Nat} {xs : List AV} {r : AV} (h : F f xs r) : ConOk Tryd.prog gl0 f (Sp.con [sp1e xs r]) := conOk1 (s := sp1e xs r) fun _ _ => h
theorem gLev_ok (k a m : Int) (t : ByteArray) (ks : List AV) : gLev ogLev k a m t ks (levelK k) := by
 rw [gLev_vc]
 have e : ∀ (c : Nat), levelK k = c → Wk (AV.lit (.int .i64 (c : Int))) (AV.lit (.int .i64 (levelK k))) ∧ SameH (hpL []) (hpL []) := fun c h => by rw [h]; exact ⟨.refl _, .rfl⟩
 refine ⟨fun h => ⟨rfl, e 0 (by rw [eqT h]; rfl)⟩, fun h1 => ⟨fun h => e 0 (by rw [eqT h]; rfl), fun h2 => ⟨fun h => e 1 (by rw [eqT h]; rfl), fun h3 => ⟨fun h => e 2 (by rw [eqT h]; rfl), fun h4 => ⟨fun h => ⟨rfl, e 3 (by rw [eqT h]; rfl)⟩, fun h5 => ⟨fun h => ⟨rfl, e 3 (by rw [eqT h]; rfl)⟩, fun h6 => ⟨fun h => ⟨rfl, e 3 (by rw [eqT h]; rfl)⟩, fun h7 => ⟨fun h => e 3 (by rw [eqT h]; rfl), fun h8 => e 4 ?_⟩⟩⟩⟩⟩⟩⟩⟩
 have h1 := eqF h1
 have h2 := eqF h2
 have h3 := eqF h3
 have h4 := eqF h4
 have h5 := eqF h5
 have h6 := eqF h6
 have h7 := eqF h7
 have h8 := eqF h8
 unfold levelK
 rw [if_neg (by omega), if_neg h3, if_neg h4, if_neg (by omega)]
attribute [local irreducible] runF in
set_option maxRecDepth 100000 in
theorem level_ok (k a m : Int) (t : ByteArray) (ks : List AV) : F fLevel [ndV k a m t ks] (i0 (levelK k)) := F_ok XB_ok rfl (by kernel_rfl) (by kernel_rfl) (by kernel_rfl) (gLev_ok k a m t ks)
theorem XT0_ok : XT0.Sound := ((XB_ok.add (conOk1 (s := spLev) fun v _ => level_ok v.k v.a v.m v.t v.ks)).add (conOk1 (s := spFormR) fun w _ => form_ok w)).add (conOk1 (s := spItoa) fun n h => itoa_ok n (by have := h.1; omega) (by have := h.2; omega))
theorem gBr_ok (n : Nd) (lv : Nat) (hs : (textS n).size ≤ 1000000) : gBr (Orc.s Orc.z Orc.z) n lv (textS n) (textA n lv) := by
 rw [gBr_vc, textA_eq]
 refine ⟨⟨n.kind, n.at_, n.num, n.text, encL n.kids⟩, ⟨trivial, .refl _, rfl⟩, fun h => ?_, fun h => ?_⟩
 · have h : ((levelK n.kind : Nat) : Int) < (lv : Int) := of_decide_eq_true h
   have h : levelK n.kind < lv := by omega
   rw [if_pos h]
   refine ⟨(), ⟨trivial, .refl _, rfl⟩, decide_eq_true ?_, decide_eq_true ?_, .refl _, .rfl⟩
   · omega
   · show (bOpen ++ textS n).size + 1 ≤ 9223372036854775807
     rw [ByteArray.size_append]
     have : bOpen.size = 1 := rfl
     omega
 · have h : ¬ ((levelK n.kind : Nat) : Int) < (lv : Int) := of_decide_eq_false h
   have h : ¬ levelK n.kind < lv := by omega
   rw [if_neg h]
   exact ⟨(), ⟨trivial, .refl _, rfl⟩, .refl _, .rfl⟩
abbrev FTx (n : Nd) : Prop := F fTextN [encP n] (s0 (textS n))
def BrAll (n : Nd) : Prop := ∀ lv : Nat, F fBrackN [encP n, i0 lv] (s0 (textA n lv))
attribute [local irreducible] runF in
set_option maxRecDepth 100000 in
theorem brOf {n : Nd} (h : FTx n) (hs : (textS n).size ≤ 1000000) : BrAll n := fun lv =>
 F_ok (X := XT0.add fTextN (Sp.con [sp1e [encP n] (s0 (textS n))])) (XT0_ok.add (val1e h)) rfl (by kernel_rfl) (by kernel_rfl) (by kernel_rfl) (gBr_ok n lv hs)
theorem XT1_ok : (XT1 BrAll).Sound := XT0_ok.add (conOk1 (s := spBr BrAll) fun q h => h q.2)
theorem gIn0_ok (a m : Int) (t : ByteArray) (ks : List AV) (h : formS t = 1) : gIn0 (Orc.t Orc.z) a m t ks ByteArray.empty := by
 rw [gIn0_vc]; exact ⟨t, ⟨trivial, .refl _, rfl⟩, eqB h, .refl _, .rfl⟩
theorem gIn1_ok (a m : Int) (t : ByteArray) (x : Nd) (s : ByteArray) (h : formS t = 2) : gIn1 (Orc.f (Orc.t Orc.z)) a m t x s s := by
 rw [gIn1_vc]; exact ⟨t, ⟨trivial, .refl _, rfl⟩, beq_eq_false_iff_ne.2 (by omega), eqB h, (), ⟨trivial, .refl _, rfl⟩, .refl _, .rfl⟩
theorem gIn2_ok (a m : Int) (t : ByteArray) (x : Nd) (s : ByteArray) (h : formS t = 3) (h0 : 0 ≤ m) (h1 : m ≤ 999999) (hs : (s ++ ⟨#[44]⟩ ++ itoaB m).size ≤ 1000000) : gIn2 (Orc.f (Orc.f Orc.z)) a m t x s (s ++ ⟨#[44]⟩ ++ itoaB m) := by
 rw [ByteArray.size_append, ByteArray.size_append] at hs
 have e : (⟨#[44]⟩ : ByteArray).size = 1 := rfl
 rw [gIn2_vc]
 refine ⟨t, ⟨trivial, .refl _, rfl⟩, beq_eq_false_iff_ne.2 (by omega), beq_eq_false_iff_ne.2 (by omega), (), ⟨trivial, .refl _, rfl⟩, decide_eq_true (by omega), m, ⟨⟨h0, h1⟩, .refl _, rfl⟩, decide_eq_true ?_, .refl _, .rfl⟩
 show (s ++ ⟨#[44]⟩).size + (itoaB m).size ≤ 9223372036854775807
 rw [ByteArray.size_append]; omega
theorem gTxN_ok (a m : Int) (t : ByteArray) (ks : List AV) : gTxN ogTxN a m t ks t := by
 rw [gTxN_vc]; exact ⟨rfl, rfl, rfl, rfl, rfl, rfl, rfl, rfl, rfl, .refl _, .rfl⟩
theorem gTxC_ok (a m : Int) (t : ByteArray) (ks : List AV) (i : ByteArray) (hs : (t ++ bOpen ++ i ++ bClose).size ≤ 1000000) : gTxC ogTxC a m t ks i (t ++ bOpen ++ i ++ bClose) := by
 rw [ByteArray.size_append, ByteArray.size_append, ByteArray.size_append] at hs
 have e1 : bOpen.size = 1 := rfl
 have e2 : bClose.size = 1 := rfl
 rw [gTxC_vc]
 refine ⟨rfl, rfl, rfl, rfl, rfl, rfl, rfl, rfl, rfl, decide_eq_true (by omega), (), ⟨trivial, .refl _, rfl⟩, decide_eq_true ?_, decide_eq_true ?_, .refl _, .rfl⟩
 · show (t ++ bOpen).size + i.size ≤ 9223372036854775807
   rw [ByteArray.size_append]; omega
 · show (t ++ bOpen ++ i).size + 1 ≤ 9223372036854775807
   rw [ByteArray.size_append, ByteArray.size_append]; omega
theorem gTx2_ok (P : Nd → Prop) (a : Int) (x y : Nd) (hx : P x) (hy : P y) (s : (textA x 0 ++ ⟨#[43]⟩ ++ textA y 1).size ≤ 1000000) : gTx2 (Orc.t Orc.z) P a x y (textA x 0 ++ ⟨#[43]⟩ ++ textA y 1) := by
 rw [ByteArray.size_append, ByteArray.size_append] at s
 rw [gTx2_vc]
 refine ⟨rfl, (x, 0), ⟨hx, .refl _, rfl⟩, decide_eq_true ?_, (y, 1), ⟨hy, .refl _, rfl⟩, decide_eq_true ?_, .refl _, .rfl⟩
 · have e : (⟨#[43]⟩ : ByteArray).size = 1 := rfl
   show (textA x 0).size + 1 ≤ 9223372036854775807; omega
 · have e : (⟨#[43]⟩ : ByteArray).size = 1 := rfl
   show (textA x 0 ++ ⟨#[43]⟩).size + (textA y 1).size ≤ 9223372036854775807
   rw [ByteArray.size_append]; omega
theorem gTx3_ok (P : Nd → Prop) (a : Int) (x y : Nd) (hx : P x) (hy : P y) (s : (textA x 0 ++ ⟨#[45]⟩ ++ textA y 1).size ≤ 1000000) : gTx3 (Orc.f (Orc.t Orc.z)) P a x y (textA x 0 ++ ⟨#[45]⟩ ++ textA y 1) := by
 rw [ByteArray.size_append, ByteArray.size_append] at s
 rw [gTx3_vc]
 refine ⟨rfl, rfl, (x, 0), ⟨hx, .refl _, rfl⟩, decide_eq_true ?_, (y, 1), ⟨hy, .refl _, rfl⟩, decide_eq_true ?_, .refl _, .rfl⟩
 · have e : (⟨#[45]⟩ : ByteArray).size = 1 := rfl
   show (textA x 0).size + 1 ≤ 9223372036854775807; omega
 · have e : (⟨#[45]⟩ : ByteArray).size = 1 := rfl
   show (textA x 0 ++ ⟨#[45]⟩).size + (textA y 1).size ≤ 9223372036854775807
   rw [ByteArray.size_append]; omega
theorem gTx4_ok (P : Nd → Prop) (a : Int) (x y : Nd) (hx : P x) (hy : P y) (s : (textA x 1 ++ ⟨#[38]⟩ ++ textA y 2).size ≤ 1000000) : gTx4 (Orc.f (Orc.f (Orc.t Orc.z))) P a x y (textA x 1 ++ ⟨#[38]⟩ ++ textA y 2) := by
 rw [ByteArray.size_append, ByteArray.size_append] at s
 rw [gTx4_vc]
 refine ⟨rfl, rfl, rfl, (x, 1), ⟨hx, .refl _, rfl⟩, decide_eq_true ?_, (y, 2), ⟨hy, .refl _, rfl⟩, decide_eq_true ?_, .refl _, .rfl⟩
 · have e : (⟨#[38]⟩ : ByteArray).size = 1 := rfl
   show (textA x 1).size + 1 ≤ 9223372036854775807; omega
 · have e : (⟨#[38]⟩ : ByteArray).size = 1 := rfl
   show (textA x 1 ++ ⟨#[38]⟩).size + (textA y 2).size ≤ 9223372036854775807
   rw [ByteArray.size_append]; omega
theorem gTx8_ok (P : Nd → Prop) (a : Int) (x y : Nd) (hx : P x) (hy : P y) (s : (textA x 4 ++ ⟨#[58, 58]⟩ ++ textA y 4).size ≤ 1000000) : gTx8 ogTx8 P a x y (textA x 4 ++ ⟨#[58, 58]⟩ ++ textA y 4) := by
 rw [ByteArray.size_append, ByteArray.size_append] at s
 rw [gTx8_vc]
 refine ⟨rfl, rfl, rfl, rfl, rfl, rfl, rfl, (x, 4), ⟨hx, .refl _, rfl⟩, decide_eq_true ?_, (y, 4), ⟨hy, .refl _, rfl⟩, decide_eq_true ?_, .refl _, .rfl⟩
 · have e : (⟨#[58, 58]⟩ : ByteArray).size = 2 := rfl
   show (textA x 4).size + 2 ≤ 9223372036854775807; omega
 · have e : (⟨#[58, 58]⟩ : ByteArray).size = 2 := rfl
   show (textA x 4 ++ ⟨#[58, 58]⟩).size + (textA y 4).size ≤ 9223372036854775807
   rw [ByteArray.size_append]; omega
theorem gTx9_ok (P : Nd → Prop) (a : Int) (x y : Nd) (hx : P x) (hy : P y) (s : (textA x 4 ++ ⟨#[46, 46]⟩ ++ textA y 4).size ≤ 1000000) : gTx9 ogTx9 P a x y (textA x 4 ++ ⟨#[46, 46]⟩ ++ textA y 4) := by
 rw [ByteArray.size_append, ByteArray.size_append] at s
 rw [gTx9_vc]
 refine ⟨rfl, rfl, rfl, rfl, rfl, rfl, rfl, rfl, (x, 4), ⟨hx, .refl _, rfl⟩, decide_eq_true ?_, (y, 4), ⟨hy, .refl _, rfl⟩, decide_eq_true ?_, .refl _, .rfl⟩
 · have e : (⟨#[46, 46]⟩ : ByteArray).size = 2 := rfl
   show (textA x 4).size + 2 ≤ 9223372036854775807; omega
 · have e : (⟨#[46, 46]⟩ : ByteArray).size = 2 := rfl
   show (textA x 4 ++ ⟨#[46, 46]⟩).size + (textA y 4).size ≤ 9223372036854775807
   rw [ByteArray.size_append]; omega
theorem gTx5_ok (P : Nd → Prop) (a : Int) (x : Nd) (hx : P x) (s : (⟨#[33]⟩ ++ textA x 2).size ≤ 1000000) : gTx5 ogTx5 P a x (⟨#[33]⟩ ++ textA x 2) := by
 rw [ByteArray.size_append] at s
 have e : (⟨#[33]⟩ : ByteArray).size = 1 := rfl
 rw [gTx5_vc]
 refine ⟨rfl, rfl, rfl, rfl, (x, 2), ⟨hx, .refl _, rfl⟩, decide_eq_true ?_, .refl _, .rfl⟩
 show 1 + (textA x 2).size ≤ 9223372036854775807; omega
theorem gTx6_ok (P : Nd → Prop) (a : Int) (x : Nd) (hx : P x) (s : (⟨#[58, 58]⟩ ++ textA x 4).size ≤ 1000000) : gTx6 ogTx6 P a x (⟨#[58, 58]⟩ ++ textA x 4) := by
 rw [ByteArray.size_append] at s
 have e : (⟨#[58, 58]⟩ : ByteArray).size = 2 := rfl
 rw [gTx6_vc]
 refine ⟨rfl, rfl, rfl, rfl, rfl, (x, 4), ⟨hx, .refl _, rfl⟩, decide_eq_true ?_, .refl _, .rfl⟩
 show 2 + (textA x 4).size ≤ 9223372036854775807; omega
theorem gTx7_ok (P : Nd → Prop) (a : Int) (x : Nd) (hx : P x) (s : (textA x 4 ++ ⟨#[58, 58]⟩).size ≤ 1000000) : gTx7 ogTx7 P a x (textA x 4 ++ ⟨#[58, 58]⟩) := by
 rw [ByteArray.size_append] at s
 have e : (⟨#[58, 58]⟩ : ByteArray).size = 2 := rfl
 rw [gTx7_vc]
 refine ⟨rfl, rfl, rfl, rfl, rfl, rfl, (x, 4), ⟨hx, .refl _, rfl⟩, decide_eq_true ?_, .refl _, .rfl⟩
 show (textA x 4).size + 2 ≤ 9223372036854775807; omega
end
end Go.Proofs.YtpofhijgccocpaaDoor
end
section
namespace Go.Proofs.YtpofhijgccocpaaDoor
open Go.AS Go.TP
noncomputable section
attribute [local irreducible] runF in
set_option maxRecDepth 100000 in
theorem txFn {X : WX} (hX : X.Sound) (hp : X.px = X0) {os : Orc} {k a m : Int} {t : ByteArray} {ks : List AV} {r : ByteArray} (g : gTx X os k a m t ks r) : F fTextN [ndV k a m t ks] (s0 r) := F_ok hX hp (by kernel_rfl) (by kernel_rfl) (by kernel_rfl) g
attribute [local irreducible] runF in
set_option maxRecDepth 100000 in
theorem inFn {X : WX} (hX : X.Sound) (hp : X.px = X0) {os : Orc} {a m : Int} {t : ByteArray} {ks : List AV} {r : ByteArray} (g : gIn X os a m t ks r) : F fInnerN [ndV 10 a m t ks] (s0 r) := F_ok hX hp (by kernel_rfl) (by kernel_rfl) (by kernel_rfl) g
theorem textA_size (n : Nd) (lv : Nat) : (textS n).size ≤ (textA n lv).size := by
 rw [textA_eq]
 split
 · rw [ByteArray.size_append, ByteArray.size_append]; omega
 · exact Nat.le_refl _
attribute [local irreducible] runF in
set_option maxRecDepth 100000 in
theorem inC {a m : Int} {t : ByteArray} {ks : List Nd} {i r : ByteArray} (hr : r = t ++ bOpen ++ i ++ bClose) (hs : r.size ≤ 1000000) (h : F fInnerN [ndV 10 a m t (encL ks)] (s0 i)) : F fTextN [encP (.mk 10 a m t ks)] (s0 r) := by
 subst hr
 exact txFn (X := XT0.add fInnerN (Sp.con [sp1e [ndV 10 a m t (encL ks)] (s0 i)])) (XT0_ok.add (val1e h)) rfl (gTxC_ok a m t (encL ks) i hs)
attribute [local irreducible] runF in
set_option maxRecDepth 100000 in
theorem textN_ok (n : Nd) (h : rightS n = true) : (textS n).size ≤ 1000000 → FTx n := by
 refine right_rec (P := fun n => (textS n).size ≤ 1000000 → FTx n) ?_ ?_ ?_ ?_ ?_ n h
 · intro a t _ _
   show F fTextN [encP (.mk 1 a 0 t [])] (s0 (textS (.mk 1 a 0 t [])))
   rw [text_1]
   exact txFn XT0_ok rfl (gTxN_ok a 0 t [])
 · intro k a x y hk _ _ hx hy hs
   have two : ∀ (s : Int) (i j : Nat), toksS (.mk k a 0 ByteArray.empty [x, y]) = atS x i ++ sg s :: atS y j → s ≠ 1 → (textS (.mk k a 0 ByteArray.empty [x, y]) = textA x i ++ signB s ++ textA y j) ∧ BrAll x ∧ BrAll y := fun s i j ht h1 => by
     have e := text_two ht h1
     rw [e, ByteArray.size_append, ByteArray.size_append] at hs
     have h1 := textA_size x i
     have h2 := textA_size y j
     exact ⟨e, brOf (hx (by omega)) (by omega), brOf (hy (by omega)) (by omega)⟩
   show F fTextN [ndV k a 0 ByteArray.empty (encL [x, y])] (s0 (textS (.mk k a 0 ByteArray.empty [x, y])))
   rw [encL_two]
   rcases hk with rfl | rfl | rfl | rfl | rfl
   · obtain ⟨e, bx, by'⟩ := two 7 0 1 rfl (by decide)
     rw [e] at hs ⊢; exact txFn XT1_ok rfl (gTx2_ok BrAll a x y bx by' hs)
   · obtain ⟨e, bx, by'⟩ := two 8 0 1 rfl (by decide)
     rw [e] at hs ⊢; exact txFn XT1_ok rfl (gTx3_ok BrAll a x y bx by' hs)
   · obtain ⟨e, bx, by'⟩ := two 9 1 2 rfl (by decide)
     rw [e] at hs ⊢; exact txFn XT1_ok rfl (gTx4_ok BrAll a x y bx by' hs)
   · obtain ⟨e, bx, by'⟩ := two 5 4 4 rfl (by decide)
     rw [e] at hs ⊢; exact txFn XT1_ok rfl (gTx8_ok BrAll a x y bx by' hs)
   · obtain ⟨e, bx, by'⟩ := two 6 4 4 rfl (by decide)
     rw [e] at hs ⊢; exact txFn XT1_ok rfl (gTx9_ok BrAll a x y bx by' hs)
 · intro k a x hk _ hx hs
   show F fTextN [ndV k a 0 ByteArray.empty (encL [x])] (s0 (textS (.mk k a 0 ByteArray.empty [x])))
   rw [encL_one]
   rcases hk with rfl | rfl | rfl
   · rw [text_5] at hs ⊢
     have hs' := hs
     rw [ByteArray.size_append] at hs'
     have h1 := textA_size x 2
     exact txFn XT1_ok rfl (gTx5_ok BrAll a x (brOf (hx (by omega)) (by omega)) hs)
   · rw [text_6] at hs ⊢
     have hs' := hs
     rw [ByteArray.size_append] at hs'
     have h1 := textA_size x 4
     exact txFn XT1_ok rfl (gTx6_ok BrAll a x (brOf (hx (by omega)) (by omega)) hs)
   · rw [text_7] at hs ⊢
     have hs' := hs
     rw [ByteArray.size_append] at hs'
     have h1 := textA_size x 4
     exact txFn XT1_ok rfl (gTx7_ok BrAll a x (brOf (hx (by omega)) (by omega)) hs)
 · intro a t ht hs
   exact inC (text_c0 ht) hs (inFn XT0_ok rfl (gIn0_ok a 0 t _ ht))
 · intro a n t x hn _ hx hs
   rcases hn with ⟨h1, h2⟩ | ⟨h1, h2, h3⟩
   · have e := text_c1 (a := a) (n := n) (x := x) h1
     have hs' := hs
     rw [e, ByteArray.size_append, ByteArray.size_append, ByteArray.size_append] at hs'
     refine inC e hs ?_
     rw [encL_one]
     exact inFn (X := XT0.add fTextN (Sp.con [sp1e [encP x] (s0 (textS x))])) (XT0_ok.add (val1e (hx (by omega)))) rfl (gIn1_ok a n t x (textS x) h1)
   · have e := text_c2 (a := a) (n := n) (x := x) h1
     have hs' := hs
     rw [e] at hs'
     simp only [ByteArray.size_append] at hs'
     refine inC e hs ?_
     rw [encL_one]
     exact inFn (X := XT0.add fTextN (Sp.con [sp1e [encP x] (s0 (textS x))])) (XT0_ok.add (val1e (hx (by omega)))) rfl (gIn2_ok a n t x (textS x) h1 h2 h3 (by simp only [ByteArray.size_append]; omega))
theorem gPr_ok (n : Nd) (s : ByteArray) : gPr (Orc.s Orc.z Orc.z) n true s s := by
 rw [gPr_vc]
 exact ⟨(), ⟨trivial, .refl _, rfl⟩, fun h => (by cases h), fun _ => ⟨(), ⟨trivial, .refl _, rfl⟩, .refl _, .rfl⟩⟩
attribute [local irreducible] runF in
set_option maxRecDepth 100000 in
theorem print_ok (n : Nd) (h : rightS n = true) (hf : fineS n) (hs : (textS n).size ≤ 1000000) : F fPrint [encP n] (s0 (textS n)) := by
 have h1 := right_ok n hf
 have h1 : F fRight [encP n] (b0 (rightS n)) := h1
 rw [h] at h1
 exact F_ok (X := (XB.add fRight (Sp.con [sp1e [encP n] (b0 true)])).add fTextN (Sp.con [sp1e [encP n] (s0 (textS n))])) ((XB_ok.add (val1e h1)).add (val1e (textN_ok n h hs))) rfl (by kernel_rfl) (by kernel_rfl) (by kernel_rfl) (gPr_ok n (textS n))
end
end Go.Proofs.YtpofhijgccocpaaDoor
end
section
namespace Go.Proofs.YtpofhijgccocpaaDoor
abbrev fKnown18 : Nat := 8
abbrev fParseBlanks : Nat := 4
end Go.Proofs.YtpofhijgccocpaaDoor
end
section
namespace Go.Proofs.YtpofhijgccocpaaDoor
open Go.AS Go.TP
noncomputable section
abbrev xsA (xs : List Int) : AV := .lst false 1 (xs.map i0)
end
end Go.Proofs.YtpofhijgccocpaaDoor
end
section
namespace Go.Proofs.YtpofhijgccocpaaDoor
open Go Go.AS Go.TP
end Go.Proofs.YtpofhijgccocpaaDoor
end
section
namespace Go.Proofs.YtpofhijgccocpaaDoor
open Go.AS Go.TP
noncomputable section
theorem spPickOk : ConOk Tryd.prog gl0 fPick (Sp.con [spPick]) := conOk1 (s := spPick) fun i h => pick_ok i.1 i.2 h.1 h.2
theorem intsGet (xs : List Int) (k : Nat) (u : AV) (h : k < xs.length) : (xs.map i0).getD k u = i0 (xs.getD k 0) := by
 rw [List.getD_eq_getElem?_getD, List.getD_eq_getElem?_getD, List.getElem?_map, List.getElem?_eq_getElem h]; rfl
end
end Go.Proofs.YtpofhijgccocpaaDoor
end
section
namespace Go.Proofs.YtpofhijgccocpaaDoor
open Go.AS Go.TP
noncomputable section
abbrev tx18 : ByteArray := ⟨#[97, 32, 111, 114, 32, 98, 32, 97, 110, 100, 32, 99, 58, 58]⟩
abbrev tp18 : ByteArray := ⟨#[97, 43, 98, 38, 99, 58, 58]⟩
def n18 : Nd := .mk 2 2 0 ByteArray.empty [.mk 1 0 0 ⟨#[97]⟩ [], .mk 4 7 0 ByteArray.empty [.mk 1 5 0 ⟨#[98]⟩ [], .mk 7 12 0 ByteArray.empty [.mk 1 11 0 ⟨#[99]⟩ []]]]
theorem parse18 : parseS tx18 = .ok n18 := by kernel_rfl
theorem text18 : textS n18 = tp18 := by kernel_rfl
def XK18 : WX := (XB.add fParse (Sp.con [sp1e [s0 tx18] (.tup [encP n18, nilE])])).add fPrint (Sp.con [sp1e [encP n18] (s0 tp18)])
def gK18 (os : Orc) : Prop := gF XK18 [fKnown18] fKnown18 os [] (b0 true)
def lawAt (f : Nat) (X : WX) (os : Orc) (xs : List AV) : Prop := lawW (X.ask [f]) 12 f (fn f) (code f) os xs
end
end Go.Proofs.YtpofhijgccocpaaDoor
end
section
namespace Go.Proofs.YtpofhijgccocpaaDoor
open Go Go.AS Go.TP
def ogK18 : Orc := HT (HT (HT (Orc.t (Orc.t (Orc.t (Orc.t Orc.z))))))
theorem gK18_vc : gK18 ogK18 = (let z1 := [(97 : UInt8), (32 : UInt8), (111 : UInt8), (114 : UInt8), (32 : UInt8), (98 : UInt8), (32 : UInt8), (97 : UInt8), (110 : UInt8), (100 : UInt8), (32 : UInt8), (99 : UInt8), (58 : UInt8), (58 : UInt8)]; U1 [s0 { data := { toList := z1 } }] [] (Yt4 (Yt4 (Yt4 (Yt (Yt (Yt (U1 [AV.agg [i0 (2 : Int), i0 (2 : Int), i0 (0 : Int), s0 ByteArray.empty, AV.lst false 5 (encL [Nd.mk (1 : Int) (0 : Int) (0 : Int) ⟨⟨[(97 : UInt8)]⟩⟩ [], Nd.mk (4 : Int) (7 : Int) (0 : Int) ByteArray.empty [Nd.mk (1 : Int) (5 : Int) (0 : Int) ⟨⟨[(98 : UInt8)]⟩⟩ [], Nd.mk (7 : Int) (12 : Int) (0 : Int) ByteArray.empty [Nd.mk (1 : Int) (11 : Int) (0 : Int) ⟨⟨[(99 : UInt8)]⟩⟩ []]]])]] [] (Yt (Wk (b0 true) (b0 true) ∧ SameH (hpL []) (hpL []))))))))))) := by kernel_rfl
end Go.Proofs.YtpofhijgccocpaaDoor
end
section
namespace Go.Proofs.YtpofhijgccocpaaDoor
open Go.AS Go.TP
noncomputable section
abbrev tErr : Nat := 29
abbrev tErrStr : Nat := 126
abbrev tPowA : Nat := 100
abbrev tU64 : Nat := 92
abbrev tInt : Nat := 3
abbrev tInts : Nat := 22
noncomputable def errMs : Array (String × TypeId) := match Tryd.prog.underlying tErr with | some (.interface ms) => ms | _ => #[]
noncomputable def errF : Field := match Tryd.prog.underlying tErrStr with | some (.struct fs) => fs.getD 0 default | _ => default
theorem u_err : Tryd.prog.underlying tErr = some (.interface errMs) := by kernel_rfl
theorem u_errP : Tryd.prog.underlying tErrStrP = some (.pointer tErrStr) := by kernel_rfl
theorem u_errS : Tryd.prog.underlying tErrStr = some (.struct #[errF]) := by kernel_rfl
theorem u_errF : Tryd.prog.underlying errF.type = some .string := by kernel_rfl
theorem o_errF : errF.offset = 0 := by kernel_rfl
theorem c_errS : Tryd.prog.cellsOf tErrStr = 1 := by kernel_rfl
theorem c_errF : Tryd.prog.cellsOf errF.type = 1 := by kernel_rfl
theorem u_pow : Tryd.prog.underlying tPowA = some (.array 20 tU64) := by kernel_rfl
theorem u_u64 : Tryd.prog.underlying tU64 = some (.int .u64) := by kernel_rfl
theorem c_u64 : Tryd.prog.cellsOf tU64 = 1 := by kernel_rfl
theorem c_pow : Tryd.prog.cellsOf tPowA = 20 := by kernel_rfl
theorem u_ints : Tryd.prog.underlying tInts = some (.slice tInt) := by kernel_rfl
theorem u_int : Tryd.prog.underlying tInt = some (.int .i64) := by kernel_rfl
theorem c_int : Tryd.prog.cellsOf tInt = 1 := by kernel_rfl
theorem only_errP : ((List.range Tryd.prog.types.size).all fun u => !(decide (Tryd.prog.typeName? 3 u = some "*errors.errorString")) || Nat.beq u tErrStrP) = true := by kernel_rfl
theorem no_errS : (Tryd.prog.types.toList.all fun i => !(decide (i.str = "errors.errorString")) || match i.desc with | .bool | .int _ | .float _ | .string => false | _ => true) = true := by kernel_rfl
theorem name_errP (u : TypeId) (h : Tryd.prog.typeName? 3 u = some "*errors.errorString") : u = tErrStrP := errP_only only_errP no_errS u h
abbrev dErr (bs : List UInt8) : DataW Unit := .iface "*errors.errorString" (.ptr (.agg [.lit (.string bs)]))
theorem gl0_of {l : List (String × DataW Unit)} {W : World} (h : laidMet Tryd.prog l W) (m1 : ("strconv.ErrSyntax", dErr eSyn.data.toList) ∈ l) (m2 : ("strconv.ErrRange", dErr eRan.data.toList) ∈ l)
  (m3 : ("internal/strconv.uint64pow10", (Lib.tabData .u64 powL : DataW Unit)) ∈ l) (g : Nat) (x : AV) (hx : gl0 g = some x) : GV ⟨fun _ => none, fun b => W.heap[b]?⟩ x g := by
 have hx : bsel (Nat.beq g gSyntax) (some (.ref (errStr eSyn))) (bsel (Nat.beq g gRange) (some (.ref (errStr eRan))) (bsel (Nat.beq g gPow) (some powA) none)) = some x := hx
 cases hb : Nat.beq g gSyntax
 · rw [hb, bsel_false] at hx
   cases hb2 : Nat.beq g gRange
   · rw [hb2, bsel_false] at hx
     cases hb3 : Nat.beq g gPow
     · rw [hb3, bsel_false] at hx; cases hx
     · rw [hb3, bsel_true] at hx; cases hx
       obtain rfl := Nat.eq_of_beq_eq_true hb3
       exact tab_var h m3 (t := tPowA) (by kernel_rfl) (by kernel_rfl) u_pow u_u64 c_u64 c_pow
   · rw [hb2, bsel_true] at hx; cases hx
     obtain rfl := Nat.eq_of_beq_eq_true hb2
     exact err_var h m2 (t := tErr) (by kernel_rfl) (by kernel_rfl) u_err name_errP u_errP u_errS o_errF u_errF c_errS c_errF
 · rw [hb, bsel_true] at hx; cases hx
   obtain rfl := Nat.eq_of_beq_eq_true hb
   exact err_var h m1 (t := tErr) (by kernel_rfl) (by kernel_rfl) u_err name_errP u_errP u_errS o_errF u_errF c_errS c_errF
theorem read_xs {H : Type} {enc : TypeId × Value → H} {W : World} {spare : Nat → Bool} {held : Bool} {n : Nat} {v : Value} {d : DataW H} {p : List MemPlace} (h : DataW.trod enc Tryd.prog W 0 spare held n tInts [v] = some (d, p)) :
  ∃ xs : List Int, VR ⟨fun _ => none, fun b => W.heap[b]?⟩ (.lst false 1 (xs.map i0)) v ∧ ∀ x ∈ xs, -9223372036854775808 ≤ x ∧ x < 9223372036854775808 := by
 obtain ⟨xs, h1, h2⟩ := read_ints u_ints u_int c_int h
 refine ⟨xs, h1, fun x hx => ?_⟩
 have e1 : IntKind.min .i64 = -9223372036854775808 := rfl
 have e2 : IntKind.max .i64 = 9223372036854775807 := rfl
 have := h2 x hx
 omega
end
end Go.Proofs.YtpofhijgccocpaaDoor
end
section
namespace Go.Proofs.YtpofhijgccocpaaDoor
open Go.AS Go.TP
noncomputable section
theorem gK18_ok : gK18 ogK18 := by
 rw [gK18_vc]
 exact ⟨(), ⟨trivial, .refl _, rfl⟩, rfl, rfl, rfl, rfl, rfl, rfl, rfl, rfl, rfl, rfl, rfl, rfl, rfl, rfl, rfl, (), ⟨trivial, .refl _, rfl⟩, rfl, .refl _, .rfl⟩
theorem fine18 : fineS n18 := ⟨by decide, ⟨by decide, trivial⟩, ⟨by decide, ⟨by decide, trivial⟩, ⟨by decide, ⟨by decide, trivial⟩, trivial⟩, trivial⟩, trivial⟩
theorem right18 : rightS n18 = true := by decide +kernel
attribute [local irreducible] runF in
set_option maxRecDepth 100000 in
theorem known18_ok : F fKnown18 [] (b0 true) := by
 have c1 := parse_ok tx18
 rw [parse18] at c1
 have c2 := print_ok n18 right18 fine18 (by rw [text18]; decide)
 rw [text18] at c2
 exact F_ok (X := XK18) ((XB_ok.add (val1e c1)).add (val1e c2)) rfl (by kernel_rfl) (by kernel_rfl) (by kernel_rfl) gK18_ok
attribute [local irreducible] runF runL lawW
end
end Go.Proofs.YtpofhijgccocpaaDoor
end
section
namespace Go.Proofs.YtpofhijgccocpaaDoor
open Go.AS Go.TP
noncomputable section
abbrev fPbl : Nat := fParseBlanks
abbrev nHp (n : Nd) : Hp := hpL [(1048577, ⟨[0, 0], .row true 5 [encP n]⟩)]
abbrev nPtr : AV := .ptr 1048577 [0, 0] 0 0
def plArgs (ys : List Int) (s t u : ByteArray) (i : Int) : List AV := [nPtr, xsA ys, s0 s, s0 t, s0 u, i0 i]
def plOut (n : Nd) (t u : ByteArray) : Ex × Back := (.exit 0, ⟨.tup [nPtr, s0 t, s0 u], nHp n, []⟩)
abbrev lpPl (P : Prop) (n : Nd) (ys : List Int) (s t u : ByteArray) (i : Int) (tt uu : ByteArray) : Lp := Lp1 [5, 1, 7, 8, 9, 10] [] (fun _ => [5, 8, 9]) P (plArgs ys s t u i) (nHp n) (plOut n tt uu)
def XPl : WX := ((XB.add fPick (Sp.con [spPick])).ask [fPbl]).askAt fPbl [41, 46, 52, 58, 64, 70, 76, 89, 92]
def rPl (os : Orc) (P : Prop) (n : Nd) (ys : List Int) (s t u t1 u1 : ByteArray) (i : Int) (tt uu : ByteArray) : Prop :=
 runL XPl 10 fPbl (fn fPbl).ntmps (loopAt (code fPbl) 0) (lpPl P n ys s t1 u1 (i + 1) tt uu) (lpPl P n ys s t1 u1 (i + 1) tt uu) os 0 [] (plArgs ys s t u i) (nHp n) (plOut n tt uu)
def rPlE (os : Orc) (P : Prop) (n : Nd) (ys : List Int) (s t u t1 u1 : ByteArray) (i : Int) (tt uu : ByteArray) : Prop := rPl os P n ys s t u t1 u1 i tt uu
def rPl0T (os : Orc) (P : Prop) (n : Nd) (ys : List Int) (s t u t1 u1 : ByteArray) (i : Int) (tt uu : ByteArray) : Prop := rPl os P n ys s t u t1 u1 i tt uu
def rPl0F (os : Orc) (P : Prop) (n : Nd) (ys : List Int) (s t u t1 u1 : ByteArray) (i : Int) (tt uu : ByteArray) : Prop := rPl os P n ys s t u t1 u1 i tt uu
def rPl1T (os : Orc) (P : Prop) (n : Nd) (ys : List Int) (s t u t1 u1 : ByteArray) (i : Int) (tt uu : ByteArray) : Prop := rPl os P n ys s t u t1 u1 i tt uu
def rPl1F (os : Orc) (P : Prop) (n : Nd) (ys : List Int) (s t u t1 u1 : ByteArray) (i : Int) (tt uu : ByteArray) : Prop := rPl os P n ys s t u t1 u1 i tt uu
def rPl2T (os : Orc) (P : Prop) (n : Nd) (ys : List Int) (s t u t1 u1 : ByteArray) (i : Int) (tt uu : ByteArray) : Prop := rPl os P n ys s t u t1 u1 i tt uu
def rPl2F (os : Orc) (P : Prop) (n : Nd) (ys : List Int) (s t u t1 u1 : ByteArray) (i : Int) (tt uu : ByteArray) : Prop := rPl os P n ys s t u t1 u1 i tt uu
def rPl3T (os : Orc) (P : Prop) (n : Nd) (ys : List Int) (s t u t1 u1 : ByteArray) (i : Int) (tt uu : ByteArray) : Prop := rPl os P n ys s t u t1 u1 i tt uu
def rPl3F (os : Orc) (P : Prop) (n : Nd) (ys : List Int) (s t u t1 u1 : ByteArray) (i : Int) (tt uu : ByteArray) : Prop := rPl os P n ys s t u t1 u1 i tt uu
def rPl4T (os : Orc) (P : Prop) (n : Nd) (ys : List Int) (s t u t1 u1 : ByteArray) (i : Int) (tt uu : ByteArray) : Prop := rPl os P n ys s t u t1 u1 i tt uu
def rPl4F (os : Orc) (P : Prop) (n : Nd) (ys : List Int) (s t u t1 u1 : ByteArray) (i : Int) (tt uu : ByteArray) : Prop := rPl os P n ys s t u t1 u1 i tt uu
def rPl5T (os : Orc) (P : Prop) (n : Nd) (ys : List Int) (s t u t1 u1 : ByteArray) (i : Int) (tt uu : ByteArray) : Prop := rPl os P n ys s t u t1 u1 i tt uu
def rPl5F (os : Orc) (P : Prop) (n : Nd) (ys : List Int) (s t u t1 u1 : ByteArray) (i : Int) (tt uu : ByteArray) : Prop := rPl os P n ys s t u t1 u1 i tt uu
def rPl6T (os : Orc) (P : Prop) (n : Nd) (ys : List Int) (s t u t1 u1 : ByteArray) (i : Int) (tt uu : ByteArray) : Prop := rPl os P n ys s t u t1 u1 i tt uu
def rPl6F (os : Orc) (P : Prop) (n : Nd) (ys : List Int) (s t u t1 u1 : ByteArray) (i : Int) (tt uu : ByteArray) : Prop := rPl os P n ys s t u t1 u1 i tt uu
def rPl7 (os : Orc) (P : Prop) (n : Nd) (ys : List Int) (s t u t1 u1 : ByteArray) (i : Int) (tt uu : ByteArray) : Prop := rPl os P n ys s t u t1 u1 i tt uu
def XBl1 (xs : AV) (s : ByteArray) (q : AV) : WX := ((XB.add fText (Sp.con [sp1e [xs] (s0 s)])).add fParse (Sp.con [sp1e [s0 s] q])).add fKnown18 (Sp.con [sp1e [] (b0 true)])
def XBl3 (xs : AV) (ys : List Int) (s p tt uu : ByteArray) (n : Nd) (c : Con) : WX :=
 ((((XB.add fText (Sp.con [sp1e [xs] (s0 s)])).add fKnown18 (Sp.con [sp1e [] (b0 true)])).add fPrint (Sp.con [sp1e [encP n] (s0 p)])).add fParse c).addLp fPbl 0 (lpPl True n ys p ByteArray.empty ByteArray.empty 0 tt uu)
def XBl2 (xs : AV) (ys : List Int) (s p tt uu q1 q2 : ByteArray) (n m1 m2 : Nd) : WX :=
 (XBl3 xs ys s p tt uu n (Sp.con [sp1e [s0 s] (.tup [encP n, nilE]), sp1e [s0 q1] (.tup [encP m1, nilE]), sp1e [s0 q2] (.tup [encP m2, nilE])])).add fSame (Sp.con [sp1e [encP n, encP m1] (b0 true), sp1e [encP n, encP m2] (b0 true)])
def gBlL (os : Orc) (xs ys : List AV) (s : ByteArray) : Prop := lawAt fPbl (XBl1 (.lst false 1 xs) s (.tup [encP Nd.zero, .iface tErrno (i0 5)])) os [.lst false 1 xs, .lst false 1 ys]
def gBlB (os : Orc) (xs ys : List AV) (s : ByteArray) (k a : Int) : Prop := lawAt fPbl (XBl1 (.lst false 1 xs) s (.tup [encP Nd.zero, encErr k a])) os [.lst false 1 xs, .lst false 1 ys]
def gBlO (os : Orc) (xs : List AV) (ys : List Int) (s p tt uu q1 q2 : ByteArray) (n m1 m2 : Nd) : Prop := lawAt fPbl (XBl2 (.lst false 1 xs) ys s p tt uu q1 q2 n m1 m2) os [.lst false 1 xs, xsA ys]
def gBlTT (os : Orc) (xs : List AV) (ys : List Int) (s p tt uu : ByteArray) (n m1 m2 : Nd) : Prop := gBlO os xs ys s p tt uu tt uu n m1 m2
def gBlTF (os : Orc) (xs : List AV) (ys : List Int) (s p tt uu : ByteArray) (n m1 : Nd) : Prop := gBlO os xs ys s p tt uu tt tt n m1 m1
def gBlFT (os : Orc) (xs : List AV) (ys : List Int) (s p tt uu : ByteArray) (n m2 : Nd) : Prop := gBlO os xs ys s p tt uu uu uu n m2 m2
def gBlFF (os : Orc) (xs : List AV) (ys : List Int) (s p tt uu : ByteArray) (n : Nd) : Prop := lawAt fPbl (XBl3 (.lst false 1 xs) ys s p tt uu n (Sp.con [sp1e [s0 s] (.tup [encP n, nilE])])) os [.lst false 1 xs, xsA ys]
end
end Go.Proofs.YtpofhijgccocpaaDoor
end
section
namespace Go.Proofs.YtpofhijgccocpaaDoor
open Go Go.AS Go.TP
theorem rPlE_vc (P : Prop) (n : Nd) (ys : List Int) (s t : ByteArray) (u t1 u1 : ByteArray) (i : Int) (tt uu : ByteArray) : rPlE (Orc.f Orc.z) P n ys s t u t1 u1 i tt uu = (let z1 := (hpL [eR 1048577 [0, 0] 5 [encP n]]); decide (i < (↑(ByteArray.size s) : Int)) = false ∧ Ex.exit 0 = Ex.exit 0 ∧ Wk (AV.tup [AV.ptr 1048577 [0, 0] 0 0, s0 t, s0 u]) (AV.tup [AV.ptr 1048577 [0, 0] 0 0, s0 tt, s0 uu]) ∧ SameH z1 z1) := by kernel_rfl
def orPl0T : Orc := HT (HT (HT (HT (HT (HT (HT (Orc.t (Orc.t (Orc.t Orc.z)))))))))
theorem rPl0T_vc (P : Prop) (n : Nd) (ys : List Int) (s t : ByteArray) (u t1 u1 : ByteArray) (i : Int) (tt uu : ByteArray) : rPl0T orPl0T P n ys s t u t1 u1 i tt uu = (let z1 := (Int.toNat (Option.getD (some (i + (1 : Int))) (↑(ByteArray.size s) : Int))); let z2 := [(32 : UInt8), (10 : UInt8), (32 : UInt8)]; let z3 := (Int.toNat (Option.getD (some i) (0 : Int))); let z4 := (↑(ByteArray.size s) : Int); let z5 := [eR 1048577 [0, 0] 5 [encP n]]; let z6 := AV.ptr 1048577 [0, 0] 0 0; let z7 := (List.map i0 ys); let z8 := (i + (1 : Int)); let z9 := [(32 : UInt8)]; decide (i < z4) = true ∧ decide ((0 : Int) ≤ i ∧ i < z4) = true ∧ ((↑(byteAt s (Int.toNat i)) : Int) == (43 : Int)) = true ∧ Yt4 (Yt4 (Yt4 (Yt4 (Yt4 (Yt4 (Yt (Yt (Yt (decide (i < (↑(List.length z7) : Int)) = true ∧ (decide ((0 : Int) ≤ i ∧ i < (↑(List.length z7) : Int)) && (true && (isShp (Cx.B (cxV XPl 10 fPbl)) shN 3 (List.getD z7 (Int.toNat i) (AV.lit (Value.tuple { toList := [] }))) && (false || true)))) = true ∧ ∃ (i1 : Int × Int), (((0 : Int) < Prod.snd i1 ∧ Prod.snd i1 ≤ (1000000 : Int)) ∧ Wks [i0 (intA (List.getD z7 (Int.toNat i) (AV.lit (Value.tuple { toList := [] })))), i0 (4 : Int)] [i0 (Prod.fst i1), i0 (Prod.snd i1)] ∧ hpL [] = hpL []) ∧ (decide ((0 : Int) ≤ Prod.fst i1 % Prod.snd i1 ∧ Prod.fst i1 % Prod.snd i1 < (4 : Int)) && true) = true ∧ inR IntKind.i64 z8 = true ∧ decide ((0 : Int) ≤ Option.getD (some i) (0 : Int) ∧ Option.getD (some i) (0 : Int) ≤ Option.getD (some z8) z4 ∧ Option.getD (some z8) z4 ≤ z4 ∧ false = false) = true ∧ decide (ByteArray.size t + ByteArray.size (List.getD (strsOf [Value.string ⟨⟨[]⟩⟩, Value.string { data := { toList := z9 } }, Value.string ⟨⟨[(9 : UInt8)]⟩⟩, Value.string { data := { toList := z2 } }]) (Int.toNat (Prod.fst i1 % Prod.snd i1)) ByteArray.empty) ≤ 9223372036854775807) = true ∧ decide (ByteArray.size (t ++ List.getD (strsOf [Value.string ⟨⟨[]⟩⟩, Value.string { data := { toList := z9 } }, Value.string ⟨⟨[(9 : UInt8)]⟩⟩, Value.string { data := { toList := z2 } }]) (Int.toNat (Prod.fst i1 % Prod.snd i1)) ByteArray.empty) + ByteArray.size (ByteArray.extract s z3 z1) ≤ 9223372036854775807) = true ∧ decide (ByteArray.size (t ++ List.getD (strsOf [Value.string ⟨⟨[]⟩⟩, Value.string { data := { toList := z9 } }, Value.string ⟨⟨[(9 : UInt8)]⟩⟩, Value.string { data := { toList := z2 } }]) (Int.toNat (Prod.fst i1 % Prod.snd i1)) ByteArray.empty ++ ByteArray.extract s z3 z1) + ByteArray.size (List.getD (strsOf [Value.string ⟨⟨[]⟩⟩, Value.string { data := { toList := z9 } }, Value.string ⟨⟨[(9 : UInt8)]⟩⟩, Value.string { data := { toList := z2 } }]) (Int.toNat (Prod.fst i1 % Prod.snd i1)) ByteArray.empty) ≤ 9223372036854775807) = true ∧ (ByteArray.toList (ByteArray.extract s z3 z1) == ByteArray.toList ⟨⟨[(43 : UInt8)]⟩⟩) = true ∧ decide (ByteArray.size u + 4 ≤ 9223372036854775807) = true ∧ inR IntKind.i64 z8 = true ∧ ∃ (_ : Unit), (P ∧ Wks [z6, AV.lst false 1 z7, s0 s, s0 (t ++ List.getD (strsOf [Value.string ⟨⟨[]⟩⟩, Value.string { data := { toList := z9 } }, Value.string ⟨⟨[(9 : UInt8)]⟩⟩, Value.string { data := { toList := z2 } }]) (Int.toNat (Prod.fst i1 % Prod.snd i1)) ByteArray.empty ++ ByteArray.extract s z3 z1 ++ List.getD (strsOf [Value.string ⟨⟨[]⟩⟩, Value.string { data := { toList := z9 } }, Value.string ⟨⟨[(9 : UInt8)]⟩⟩, Value.string { data := { toList := z2 } }]) (Int.toNat (Prod.fst i1 % Prod.snd i1)) ByteArray.empty), s0 (u ++ ⟨⟨[(32 : UInt8), (111 : UInt8), (114 : UInt8), (32 : UInt8)]⟩⟩), i0 z8] [z6, AV.lst false 1 z7, s0 s, s0 t1, s0 u1, i0 z8] ∧ hpL z5 = hpL z5) ∧ Ex.exit 0 = Ex.exit 0 ∧ Wk (AV.tup [z6, s0 tt, s0 uu]) (AV.tup [z6, s0 tt, s0 uu]) ∧ SameH (hpL z5) (hpL z5))))))))))) := by kernel_rfl
def orPl0F : Orc := HT (HT (HT (HT (HT (HT (HT (Orc.t (Orc.f (Orc.t Orc.z)))))))))
theorem rPl0F_vc (P : Prop) (n : Nd) (ys : List Int) (s t : ByteArray) (u t1 u1 : ByteArray) (i : Int) (tt uu : ByteArray) : rPl0F orPl0F P n ys s t u t1 u1 i tt uu = (let z1 := (Int.toNat (Option.getD (some (i + (1 : Int))) (↑(ByteArray.size s) : Int))); let z2 := (Int.toNat (Option.getD (some i) (0 : Int))); let z3 := (↑(ByteArray.size s) : Int); let z4 := [eR 1048577 [0, 0] 5 [encP n]]; let z5 := AV.ptr 1048577 [0, 0] 0 0; let z6 := (i + (1 : Int)); decide (i < z3) = true ∧ decide ((0 : Int) ≤ i ∧ i < z3) = true ∧ ((↑(byteAt s (Int.toNat i)) : Int) == (43 : Int)) = true ∧ Yt4 (Yt4 (Yt4 (Yt4 (Yt4 (Yt4 (Yt (Yt (Yt (decide (i < (↑(List.length (List.map i0 ys)) : Int)) = false ∧ inR IntKind.i64 z6 = true ∧ decide ((0 : Int) ≤ Option.getD (some i) (0 : Int) ∧ Option.getD (some i) (0 : Int) ≤ Option.getD (some z6) z3 ∧ Option.getD (some z6) z3 ≤ z3 ∧ false = false) = true ∧ decide (ByteArray.size t + 0 ≤ 9223372036854775807) = true ∧ decide (ByteArray.size (t ++ ⟨⟨[]⟩⟩) + ByteArray.size (ByteArray.extract s z2 z1) ≤ 9223372036854775807) = true ∧ decide (ByteArray.size (t ++ ⟨⟨[]⟩⟩ ++ ByteArray.extract s z2 z1) + 0 ≤ 9223372036854775807) = true ∧ (ByteArray.toList (ByteArray.extract s z2 z1) == ByteArray.toList ⟨⟨[(43 : UInt8)]⟩⟩) = true ∧ decide (ByteArray.size u + 4 ≤ 9223372036854775807) = true ∧ inR IntKind.i64 z6 = true ∧ ∃ (_ : Unit), (P ∧ Wks [z5, AV.lst false 1 (List.map i0 ys), s0 s, s0 (t ++ ⟨⟨[]⟩⟩ ++ ByteArray.extract s z2 z1 ++ ⟨⟨[]⟩⟩), s0 (u ++ ⟨⟨[(32 : UInt8), (111 : UInt8), (114 : UInt8), (32 : UInt8)]⟩⟩), i0 z6] [z5, AV.lst false 1 (List.map i0 ys), s0 s, s0 t1, s0 u1, i0 z6] ∧ hpL z4 = hpL z4) ∧ Ex.exit 0 = Ex.exit 0 ∧ Wk (AV.tup [z5, s0 tt, s0 uu]) (AV.tup [z5, s0 tt, s0 uu]) ∧ SameH (hpL z4) (hpL z4))))))))))) := by kernel_rfl
def orPl1T : Orc := Orc.t (HF (HT (HT (HT (HT (HT (HT (Orc.t (Orc.f (Orc.t Orc.z))))))))))
theorem rPl1T_vc (P : Prop) (n : Nd) (ys : List Int) (s t : ByteArray) (u t1 u1 : ByteArray) (i : Int) (tt uu : ByteArray) : rPl1T orPl1T P n ys s t u t1 u1 i tt uu = (let z1 := (Int.toNat (Option.getD (some (i + (1 : Int))) (↑(ByteArray.size s) : Int))); let z2 := [(32 : UInt8), (10 : UInt8), (32 : UInt8)]; let z3 := (Int.toNat (Option.getD (some i) (0 : Int))); let z4 := (↑(ByteArray.size s) : Int); let z5 := [eR 1048577 [0, 0] 5 [encP n]]; let z6 := AV.ptr 1048577 [0, 0] 0 0; let z7 := (List.map i0 ys); let z8 := (i + (1 : Int)); let z9 := [(32 : UInt8)]; let z10 := (ByteArray.extract s z3 z1); decide (i < z4) = true ∧ decide ((0 : Int) ≤ i ∧ i < z4) = true ∧ ((↑(byteAt s (Int.toNat i)) : Int) == (43 : Int)) = false ∧ Nf (Nf (decide ((0 : Int) ≤ i ∧ i < z4) = true ∧ Nf (((↑(byteAt s (Int.toNat i)) : Int) == (45 : Int)) = true ∧ Yt4 (Yt4 (Yt4 (Yt4 (Yt4 (Yt (Yt (Yt (decide (i < (↑(List.length z7) : Int)) = true ∧ (decide ((0 : Int) ≤ i ∧ i < (↑(List.length z7) : Int)) && (true && (isShp (Cx.B (cxV XPl 10 fPbl)) shN 3 (List.getD z7 (Int.toNat i) (AV.lit (Value.tuple { toList := [] }))) && (false || true)))) = true ∧ ∃ (i1 : Int × Int), (((0 : Int) < Prod.snd i1 ∧ Prod.snd i1 ≤ (1000000 : Int)) ∧ Wks [i0 (intA (List.getD z7 (Int.toNat i) (AV.lit (Value.tuple { toList := [] })))), i0 (4 : Int)] [i0 (Prod.fst i1), i0 (Prod.snd i1)] ∧ hpL [] = hpL []) ∧ (decide ((0 : Int) ≤ Prod.fst i1 % Prod.snd i1 ∧ Prod.fst i1 % Prod.snd i1 < (4 : Int)) && true) = true ∧ inR IntKind.i64 z8 = true ∧ decide ((0 : Int) ≤ Option.getD (some i) (0 : Int) ∧ Option.getD (some i) (0 : Int) ≤ Option.getD (some z8) z4 ∧ Option.getD (some z8) z4 ≤ z4 ∧ false = false) = true ∧ decide (ByteArray.size t + ByteArray.size (List.getD (strsOf [Value.string ⟨⟨[]⟩⟩, Value.string { data := { toList := z9 } }, Value.string ⟨⟨[(9 : UInt8)]⟩⟩, Value.string { data := { toList := z2 } }]) (Int.toNat (Prod.fst i1 % Prod.snd i1)) ByteArray.empty) ≤ 9223372036854775807) = true ∧ decide (ByteArray.size (t ++ List.getD (strsOf [Value.string ⟨⟨[]⟩⟩, Value.string { data := { toList := z9 } }, Value.string ⟨⟨[(9 : UInt8)]⟩⟩, Value.string { data := { toList := z2 } }]) (Int.toNat (Prod.fst i1 % Prod.snd i1)) ByteArray.empty) + ByteArray.size z10 ≤ 9223372036854775807) = true ∧ decide (ByteArray.size (t ++ List.getD (strsOf [Value.string ⟨⟨[]⟩⟩, Value.string { data := { toList := z9 } }, Value.string ⟨⟨[(9 : UInt8)]⟩⟩, Value.string { data := { toList := z2 } }]) (Int.toNat (Prod.fst i1 % Prod.snd i1)) ByteArray.empty ++ ByteArray.extract s z3 z1) + ByteArray.size (List.getD (strsOf [Value.string ⟨⟨[]⟩⟩, Value.string { data := { toList := z9 } }, Value.string ⟨⟨[(9 : UInt8)]⟩⟩, Value.string { data := { toList := z2 } }]) (Int.toNat (Prod.fst i1 % Prod.snd i1)) ByteArray.empty) ≤ 9223372036854775807) = true ∧ (ByteArray.toList z10 == ByteArray.toList ⟨⟨[(43 : UInt8)]⟩⟩) = false ∧ (ByteArray.toList z10 == ByteArray.toList ⟨⟨[(45 : UInt8)]⟩⟩) = true ∧ decide (ByteArray.size u + 7 ≤ 9223372036854775807) = true ∧ inR IntKind.i64 z8 = true ∧ ∃ (_ : Unit), (P ∧ Wks [z6, AV.lst false 1 z7, s0 s, s0 (t ++ List.getD (strsOf [Value.string ⟨⟨[]⟩⟩, Value.string { data := { toList := z9 } }, Value.string ⟨⟨[(9 : UInt8)]⟩⟩, Value.string { data := { toList := z2 } }]) (Int.toNat (Prod.fst i1 % Prod.snd i1)) ByteArray.empty ++ ByteArray.extract s z3 z1 ++ List.getD (strsOf [Value.string ⟨⟨[]⟩⟩, Value.string { data := { toList := z9 } }, Value.string ⟨⟨[(9 : UInt8)]⟩⟩, Value.string { data := { toList := z2 } }]) (Int.toNat (Prod.fst i1 % Prod.snd i1)) ByteArray.empty), s0 (u ++ ⟨⟨[(32 : UInt8), (109 : UInt8), (105 : UInt8), (110 : UInt8), (117 : UInt8), (115 : UInt8), (32 : UInt8)]⟩⟩), i0 z8] [z6, AV.lst false 1 z7, s0 s, s0 t1, s0 u1, i0 z8] ∧ hpL z5 = hpL z5) ∧ Ex.exit 0 = Ex.exit 0 ∧ Wk (AV.tup [z6, s0 tt, s0 uu]) (AV.tup [z6, s0 tt, s0 uu]) ∧ SameH (hpL z5) (hpL z5))))))))))))) := by kernel_rfl
def orPl1F : Orc := Orc.t (HF (HT (HT (HT (HT (HT (HT (Orc.f (Orc.f (Orc.t Orc.z))))))))))
theorem rPl1F_vc (P : Prop) (n : Nd) (ys : List Int) (s t : ByteArray) (u t1 u1 : ByteArray) (i : Int) (tt uu : ByteArray) : rPl1F orPl1F P n ys s t u t1 u1 i tt uu = (let z1 := (Int.toNat (Option.getD (some (i + (1 : Int))) (↑(ByteArray.size s) : Int))); let z2 := (Int.toNat (Option.getD (some i) (0 : Int))); let z3 := (↑(ByteArray.size s) : Int); let z4 := [eR 1048577 [0, 0] 5 [encP n]]; let z5 := AV.ptr 1048577 [0, 0] 0 0; let z6 := (i + (1 : Int)); let z7 := (ByteArray.extract s z2 z1); decide (i < z3) = true ∧ decide ((0 : Int) ≤ i ∧ i < z3) = true ∧ ((↑(byteAt s (Int.toNat i)) : Int) == (43 : Int)) = false ∧ Nf (Nf (decide ((0 : Int) ≤ i ∧ i < z3) = true ∧ Nf (((↑(byteAt s (Int.toNat i)) : Int) == (45 : Int)) = true ∧ Yt4 (Yt4 (Yt4 (Yt4 (Yt4 (Yt (Yt (Yt (decide (i < (↑(List.length (List.map i0 ys)) : Int)) = false ∧ inR IntKind.i64 z6 = true ∧ decide ((0 : Int) ≤ Option.getD (some i) (0 : Int) ∧ Option.getD (some i) (0 : Int) ≤ Option.getD (some z6) z3 ∧ Option.getD (some z6) z3 ≤ z3 ∧ false = false) = true ∧ decide (ByteArray.size t + 0 ≤ 9223372036854775807) = true ∧ decide (ByteArray.size (t ++ ⟨⟨[]⟩⟩) + ByteArray.size z7 ≤ 9223372036854775807) = true ∧ decide (ByteArray.size (t ++ ⟨⟨[]⟩⟩ ++ ByteArray.extract s z2 z1) + 0 ≤ 9223372036854775807) = true ∧ (ByteArray.toList z7 == ByteArray.toList ⟨⟨[(43 : UInt8)]⟩⟩) = false ∧ (ByteArray.toList z7 == ByteArray.toList ⟨⟨[(45 : UInt8)]⟩⟩) = true ∧ decide (ByteArray.size u + 7 ≤ 9223372036854775807) = true ∧ inR IntKind.i64 z6 = true ∧ ∃ (_ : Unit), (P ∧ Wks [z5, AV.lst false 1 (List.map i0 ys), s0 s, s0 (t ++ ⟨⟨[]⟩⟩ ++ ByteArray.extract s z2 z1 ++ ⟨⟨[]⟩⟩), s0 (u ++ ⟨⟨[(32 : UInt8), (109 : UInt8), (105 : UInt8), (110 : UInt8), (117 : UInt8), (115 : UInt8), (32 : UInt8)]⟩⟩), i0 z6] [z5, AV.lst false 1 (List.map i0 ys), s0 s, s0 t1, s0 u1, i0 z6] ∧ hpL z4 = hpL z4) ∧ Ex.exit 0 = Ex.exit 0 ∧ Wk (AV.tup [z5, s0 tt, s0 uu]) (AV.tup [z5, s0 tt, s0 uu]) ∧ SameH (hpL z4) (hpL z4))))))))))))) := by kernel_rfl
def orPl2T : Orc := Orc.t (HF (HF (HT (HT (HT (HT (HT (Orc.t (Orc.f (Orc.f (Orc.t Orc.z)))))))))))
theorem rPl2T_vc (P : Prop) (n : Nd) (ys : List Int) (s t : ByteArray) (u t1 u1 : ByteArray) (i : Int) (tt uu : ByteArray) : rPl2T orPl2T P n ys s t u t1 u1 i tt uu = (let z1 := (ByteArray.extract s (Int.toNat (Option.getD (some i) (0 : Int))) (Int.toNat (Option.getD (some (i + (1 : Int))) (↑(ByteArray.size s) : Int)))); let z2 := [(32 : UInt8), (10 : UInt8), (32 : UInt8)]; let z3 := (↑(ByteArray.size s) : Int); let z4 := [eR 1048577 [0, 0] 5 [encP n]]; let z5 := (i + (1 : Int)); let z6 := AV.ptr 1048577 [0, 0] 0 0; let z7 := (List.map i0 ys); let z8 := (↑(byteAt s (Int.toNat i)) : Int); let z9 := [(32 : UInt8)]; let z10 := ((0 : Int) ≤ i ∧ i < z3); let z11 := (Int.toNat (Option.getD (some i) (0 : Int))); let z12 := (Int.toNat (Option.getD (some z5) z3)); decide (i < z3) = true ∧ decide z10 = true ∧ (z8 == (43 : Int)) = false ∧ Nf (Nf (decide z10 = true ∧ Nf ((z8 == (45 : Int)) = false ∧ Nf (Nf (decide z10 = true ∧ Nf ((z8 == (38 : Int)) = true ∧ Yt4 (Yt4 (Yt4 (Yt4 (Yt (Yt (Yt (decide (i < (↑(List.length z7) : Int)) = true ∧ (decide ((0 : Int) ≤ i ∧ i < (↑(List.length z7) : Int)) && (true && (isShp (Cx.B (cxV XPl 10 fPbl)) shN 3 (List.getD z7 (Int.toNat i) (AV.lit (Value.tuple { toList := [] }))) && (false || true)))) = true ∧ ∃ (i1 : Int × Int), (((0 : Int) < Prod.snd i1 ∧ Prod.snd i1 ≤ (1000000 : Int)) ∧ Wks [i0 (intA (List.getD z7 (Int.toNat i) (AV.lit (Value.tuple { toList := [] })))), i0 (4 : Int)] [i0 (Prod.fst i1), i0 (Prod.snd i1)] ∧ hpL [] = hpL []) ∧ (decide ((0 : Int) ≤ Prod.fst i1 % Prod.snd i1 ∧ Prod.fst i1 % Prod.snd i1 < (4 : Int)) && true) = true ∧ inR IntKind.i64 z5 = true ∧ decide ((0 : Int) ≤ Option.getD (some i) (0 : Int) ∧ Option.getD (some i) (0 : Int) ≤ Option.getD (some z5) z3 ∧ Option.getD (some z5) z3 ≤ z3 ∧ false = false) = true ∧ decide (ByteArray.size t + ByteArray.size (List.getD (strsOf [Value.string ⟨⟨[]⟩⟩, Value.string { data := { toList := z9 } }, Value.string ⟨⟨[(9 : UInt8)]⟩⟩, Value.string { data := { toList := z2 } }]) (Int.toNat (Prod.fst i1 % Prod.snd i1)) ByteArray.empty) ≤ 9223372036854775807) = true ∧ decide (ByteArray.size (t ++ List.getD (strsOf [Value.string ⟨⟨[]⟩⟩, Value.string { data := { toList := z9 } }, Value.string ⟨⟨[(9 : UInt8)]⟩⟩, Value.string { data := { toList := z2 } }]) (Int.toNat (Prod.fst i1 % Prod.snd i1)) ByteArray.empty) + ByteArray.size z1 ≤ 9223372036854775807) = true ∧ decide (ByteArray.size (t ++ List.getD (strsOf [Value.string ⟨⟨[]⟩⟩, Value.string { data := { toList := z9 } }, Value.string ⟨⟨[(9 : UInt8)]⟩⟩, Value.string { data := { toList := z2 } }]) (Int.toNat (Prod.fst i1 % Prod.snd i1)) ByteArray.empty ++ ByteArray.extract s z11 z12) + ByteArray.size (List.getD (strsOf [Value.string ⟨⟨[]⟩⟩, Value.string { data := { toList := z9 } }, Value.string ⟨⟨[(9 : UInt8)]⟩⟩, Value.string { data := { toList := z2 } }]) (Int.toNat (Prod.fst i1 % Prod.snd i1)) ByteArray.empty) ≤ 9223372036854775807) = true ∧ (ByteArray.toList z1 == ByteArray.toList ⟨⟨[(43 : UInt8)]⟩⟩) = false ∧ (ByteArray.toList z1 == ByteArray.toList ⟨⟨[(45 : UInt8)]⟩⟩) = false ∧ (ByteArray.toList z1 == ByteArray.toList ⟨⟨[(38 : UInt8)]⟩⟩) = true ∧ decide (ByteArray.size u + 5 ≤ 9223372036854775807) = true ∧ inR IntKind.i64 z5 = true ∧ ∃ (_ : Unit), (P ∧ Wks [z6, AV.lst false 1 z7, s0 s, s0 (t ++ List.getD (strsOf [Value.string ⟨⟨[]⟩⟩, Value.string { data := { toList := z9 } }, Value.string ⟨⟨[(9 : UInt8)]⟩⟩, Value.string { data := { toList := z2 } }]) (Int.toNat (Prod.fst i1 % Prod.snd i1)) ByteArray.empty ++ ByteArray.extract s z11 z12 ++ List.getD (strsOf [Value.string ⟨⟨[]⟩⟩, Value.string { data := { toList := z9 } }, Value.string ⟨⟨[(9 : UInt8)]⟩⟩, Value.string { data := { toList := z2 } }]) (Int.toNat (Prod.fst i1 % Prod.snd i1)) ByteArray.empty), s0 (u ++ ⟨⟨[(32 : UInt8), (97 : UInt8), (110 : UInt8), (100 : UInt8), (32 : UInt8)]⟩⟩), i0 z5] [z6, AV.lst false 1 z7, s0 s, s0 t1, s0 u1, i0 z5] ∧ hpL z4 = hpL z4) ∧ Ex.exit 0 = Ex.exit 0 ∧ Wk (AV.tup [z6, s0 tt, s0 uu]) (AV.tup [z6, s0 tt, s0 uu]) ∧ SameH (hpL z4) (hpL z4))))))))))))))) := by kernel_rfl
def orPl2F : Orc := Orc.t (HF (HF (HT (HT (HT (HT (HT (Orc.f (Orc.f (Orc.f (Orc.t Orc.z)))))))))))
theorem rPl2F_vc (P : Prop) (n : Nd) (ys : List Int) (s t : ByteArray) (u t1 u1 : ByteArray) (i : Int) (tt uu : ByteArray) : rPl2F orPl2F P n ys s t u t1 u1 i tt uu = (let z1 := (ByteArray.extract s (Int.toNat (Option.getD (some i) (0 : Int))) (Int.toNat (Option.getD (some (i + (1 : Int))) (↑(ByteArray.size s) : Int)))); let z2 := (↑(ByteArray.size s) : Int); let z3 := [eR 1048577 [0, 0] 5 [encP n]]; let z4 := (i + (1 : Int)); let z5 := AV.ptr 1048577 [0, 0] 0 0; let z6 := (↑(byteAt s (Int.toNat i)) : Int); let z7 := ((0 : Int) ≤ i ∧ i < z2); let z8 := (Int.toNat (Option.getD (some i) (0 : Int))); let z9 := (Int.toNat (Option.getD (some z4) z2)); decide (i < z2) = true ∧ decide z7 = true ∧ (z6 == (43 : Int)) = false ∧ Nf (Nf (decide z7 = true ∧ Nf ((z6 == (45 : Int)) = false ∧ Nf (Nf (decide z7 = true ∧ Nf ((z6 == (38 : Int)) = true ∧ Yt4 (Yt4 (Yt4 (Yt4 (Yt (Yt (Yt (decide (i < (↑(List.length (List.map i0 ys)) : Int)) = false ∧ inR IntKind.i64 z4 = true ∧ decide ((0 : Int) ≤ Option.getD (some i) (0 : Int) ∧ Option.getD (some i) (0 : Int) ≤ Option.getD (some z4) z2 ∧ Option.getD (some z4) z2 ≤ z2 ∧ false = false) = true ∧ decide (ByteArray.size t + 0 ≤ 9223372036854775807) = true ∧ decide (ByteArray.size (t ++ ⟨⟨[]⟩⟩) + ByteArray.size z1 ≤ 9223372036854775807) = true ∧ decide (ByteArray.size (t ++ ⟨⟨[]⟩⟩ ++ ByteArray.extract s z8 z9) + 0 ≤ 9223372036854775807) = true ∧ (ByteArray.toList z1 == ByteArray.toList ⟨⟨[(43 : UInt8)]⟩⟩) = false ∧ (ByteArray.toList z1 == ByteArray.toList ⟨⟨[(45 : UInt8)]⟩⟩) = false ∧ (ByteArray.toList z1 == ByteArray.toList ⟨⟨[(38 : UInt8)]⟩⟩) = true ∧ decide (ByteArray.size u + 5 ≤ 9223372036854775807) = true ∧ inR IntKind.i64 z4 = true ∧ ∃ (_ : Unit), (P ∧ Wks [z5, AV.lst false 1 (List.map i0 ys), s0 s, s0 (t ++ ⟨⟨[]⟩⟩ ++ ByteArray.extract s z8 z9 ++ ⟨⟨[]⟩⟩), s0 (u ++ ⟨⟨[(32 : UInt8), (97 : UInt8), (110 : UInt8), (100 : UInt8), (32 : UInt8)]⟩⟩), i0 z4] [z5, AV.lst false 1 (List.map i0 ys), s0 s, s0 t1, s0 u1, i0 z4] ∧ hpL z3 = hpL z3) ∧ Ex.exit 0 = Ex.exit 0 ∧ Wk (AV.tup [z5, s0 tt, s0 uu]) (AV.tup [z5, s0 tt, s0 uu]) ∧ SameH (hpL z3) (hpL z3))))))))))))))) := by kernel_rfl
def orPl3T : Orc := Orc.t (HF (HF (HF (HT (HT (HT (HT (Orc.t (Orc.f (Orc.f (Orc.f (Orc.t Orc.z))))))))))))
theorem rPl3T_vc (P : Prop) (n : Nd) (ys : List Int) (s t : ByteArray) (u t1 u1 : ByteArray) (i : Int) (tt uu : ByteArray) : rPl3T orPl3T P n ys s t u t1 u1 i tt uu = (let z1 := (ByteArray.extract s (Int.toNat (Option.getD (some i) (0 : Int))) (Int.toNat (Option.getD (some (i + (1 : Int))) (↑(ByteArray.size s) : Int)))); let z2 := (↑(ByteArray.size s) : Int); let z3 := [(32 : UInt8), (10 : UInt8), (32 : UInt8)]; let z4 := (↑(byteAt s (Int.toNat i)) : Int); let z5 := [eR 1048577 [0, 0] 5 [encP n]]; let z6 := (i + (1 : Int)); let z7 := AV.ptr 1048577 [0, 0] 0 0; let z8 := ((0 : Int) ≤ i ∧ i < z2); let z9 := (List.map i0 ys); let z10 := [(32 : UInt8)]; let z11 := (Int.toNat (Option.getD (some i) (0 : Int))); let z12 := (Int.toNat (Option.getD (some z6) z2)); decide (i < z2) = true ∧ decide z8 = true ∧ (z4 == (43 : Int)) = false ∧ Nf (Nf (decide z8 = true ∧ Nf ((z4 == (45 : Int)) = false ∧ Nf (Nf (decide z8 = true ∧ Nf ((z4 == (38 : Int)) = false ∧ Nf (Nf (decide z8 = true ∧ Nf ((z4 == (33 : Int)) = true ∧ Yt4 (Yt4 (Yt4 (Yt (Yt (Yt (decide (i < (↑(List.length z9) : Int)) = true ∧ (decide ((0 : Int) ≤ i ∧ i < (↑(List.length z9) : Int)) && (true && (isShp (Cx.B (cxV XPl 10 fPbl)) shN 3 (List.getD z9 (Int.toNat i) (AV.lit (Value.tuple { toList := [] }))) && (false || true)))) = true ∧ ∃ (i1 : Int × Int), (((0 : Int) < Prod.snd i1 ∧ Prod.snd i1 ≤ (1000000 : Int)) ∧ Wks [i0 (intA (List.getD z9 (Int.toNat i) (AV.lit (Value.tuple { toList := [] })))), i0 (4 : Int)] [i0 (Prod.fst i1), i0 (Prod.snd i1)] ∧ hpL [] = hpL []) ∧ (decide ((0 : Int) ≤ Prod.fst i1 % Prod.snd i1 ∧ Prod.fst i1 % Prod.snd i1 < (4 : Int)) && true) = true ∧ inR IntKind.i64 z6 = true ∧ decide ((0 : Int) ≤ Option.getD (some i) (0 : Int) ∧ Option.getD (some i) (0 : Int) ≤ Option.getD (some z6) z2 ∧ Option.getD (some z6) z2 ≤ z2 ∧ false = false) = true ∧ decide (ByteArray.size t + ByteArray.size (List.getD (strsOf [Value.string ⟨⟨[]⟩⟩, Value.string { data := { toList := z10 } }, Value.string ⟨⟨[(9 : UInt8)]⟩⟩, Value.string { data := { toList := z3 } }]) (Int.toNat (Prod.fst i1 % Prod.snd i1)) ByteArray.empty) ≤ 9223372036854775807) = true ∧ decide (ByteArray.size (t ++ List.getD (strsOf [Value.string ⟨⟨[]⟩⟩, Value.string { data := { toList := z10 } }, Value.string ⟨⟨[(9 : UInt8)]⟩⟩, Value.string { data := { toList := z3 } }]) (Int.toNat (Prod.fst i1 % Prod.snd i1)) ByteArray.empty) + ByteArray.size z1 ≤ 9223372036854775807) = true ∧ decide (ByteArray.size (t ++ List.getD (strsOf [Value.string ⟨⟨[]⟩⟩, Value.string { data := { toList := z10 } }, Value.string ⟨⟨[(9 : UInt8)]⟩⟩, Value.string { data := { toList := z3 } }]) (Int.toNat (Prod.fst i1 % Prod.snd i1)) ByteArray.empty ++ ByteArray.extract s z11 z12) + ByteArray.size (List.getD (strsOf [Value.string ⟨⟨[]⟩⟩, Value.string { data := { toList := z10 } }, Value.string ⟨⟨[(9 : UInt8)]⟩⟩, Value.string { data := { toList := z3 } }]) (Int.toNat (Prod.fst i1 % Prod.snd i1)) ByteArray.empty) ≤ 9223372036854775807) = true ∧ (ByteArray.toList z1 == ByteArray.toList ⟨⟨[(43 : UInt8)]⟩⟩) = false ∧ (ByteArray.toList z1 == ByteArray.toList ⟨⟨[(45 : UInt8)]⟩⟩) = false ∧ (ByteArray.toList z1 == ByteArray.toList ⟨⟨[(38 : UInt8)]⟩⟩) = false ∧ (ByteArray.toList z1 == ByteArray.toList ⟨⟨[(33 : UInt8)]⟩⟩) = true ∧ decide (ByteArray.size u + 5 ≤ 9223372036854775807) = true ∧ inR IntKind.i64 z6 = true ∧ ∃ (_ : Unit), (P ∧ Wks [z7, AV.lst false 1 z9, s0 s, s0 (t ++ List.getD (strsOf [Value.string ⟨⟨[]⟩⟩, Value.string { data := { toList := z10 } }, Value.string ⟨⟨[(9 : UInt8)]⟩⟩, Value.string { data := { toList := z3 } }]) (Int.toNat (Prod.fst i1 % Prod.snd i1)) ByteArray.empty ++ ByteArray.extract s z11 z12 ++ List.getD (strsOf [Value.string ⟨⟨[]⟩⟩, Value.string { data := { toList := z10 } }, Value.string ⟨⟨[(9 : UInt8)]⟩⟩, Value.string { data := { toList := z3 } }]) (Int.toNat (Prod.fst i1 % Prod.snd i1)) ByteArray.empty), s0 (u ++ ⟨⟨[(32 : UInt8), (110 : UInt8), (111 : UInt8), (116 : UInt8), (32 : UInt8)]⟩⟩), i0 z6] [z7, AV.lst false 1 z9, s0 s, s0 t1, s0 u1, i0 z6] ∧ hpL z5 = hpL z5) ∧ Ex.exit 0 = Ex.exit 0 ∧ Wk (AV.tup [z7, s0 tt, s0 uu]) (AV.tup [z7, s0 tt, s0 uu]) ∧ SameH (hpL z5) (hpL z5))))))))))))))))) := by kernel_rfl
def orPl3F : Orc := Orc.t (HF (HF (HF (HT (HT (HT (HT (HF (Orc.t Orc.z)))))))))
theorem rPl3F_vc (P : Prop) (n : Nd) (ys : List Int) (s t : ByteArray) (u t1 u1 : ByteArray) (i : Int) (tt uu : ByteArray) : rPl3F orPl3F P n ys s t u t1 u1 i tt uu = (let z1 := (ByteArray.extract s (Int.toNat (Option.getD (some i) (0 : Int))) (Int.toNat (Option.getD (some (i + (1 : Int))) (↑(ByteArray.size s) : Int)))); let z2 := (↑(ByteArray.size s) : Int); let z3 := (↑(byteAt s (Int.toNat i)) : Int); let z4 := [eR 1048577 [0, 0] 5 [encP n]]; let z5 := (i + (1 : Int)); let z6 := AV.ptr 1048577 [0, 0] 0 0; let z7 := ((0 : Int) ≤ i ∧ i < z2); let z8 := (Int.toNat (Option.getD (some i) (0 : Int))); let z9 := (Int.toNat (Option.getD (some z5) z2)); decide (i < z2) = true ∧ decide z7 = true ∧ (z3 == (43 : Int)) = false ∧ Nf (Nf (decide z7 = true ∧ Nf ((z3 == (45 : Int)) = false ∧ Nf (Nf (decide z7 = true ∧ Nf ((z3 == (38 : Int)) = false ∧ Nf (Nf (decide z7 = true ∧ Nf ((z3 == (33 : Int)) = true ∧ Yt4 (Yt4 (Yt4 (Yt (Yt (Yt (decide (i < (↑(List.length (List.map i0 ys)) : Int)) = false ∧ inR IntKind.i64 z5 = true ∧ decide ((0 : Int) ≤ Option.getD (some i) (0 : Int) ∧ Option.getD (some i) (0 : Int) ≤ Option.getD (some z5) z2 ∧ Option.getD (some z5) z2 ≤ z2 ∧ false = false) = true ∧ decide (ByteArray.size t + 0 ≤ 9223372036854775807) = true ∧ decide (ByteArray.size (t ++ ⟨⟨[]⟩⟩) + ByteArray.size z1 ≤ 9223372036854775807) = true ∧ decide (ByteArray.size (t ++ ⟨⟨[]⟩⟩ ++ ByteArray.extract s z8 z9) + 0 ≤ 9223372036854775807) = true ∧ (ByteArray.toList z1 == ByteArray.toList ⟨⟨[(43 : UInt8)]⟩⟩) = false ∧ (ByteArray.toList z1 == ByteArray.toList ⟨⟨[(45 : UInt8)]⟩⟩) = false ∧ (ByteArray.toList z1 == ByteArray.toList ⟨⟨[(38 : UInt8)]⟩⟩) = false ∧ (ByteArray.toList z1 == ByteArray.toList ⟨⟨[(33 : UInt8)]⟩⟩) = true ∧ decide (ByteArray.size u + 5 ≤ 9223372036854775807) = true ∧ inR IntKind.i64 z5 = true ∧ ∃ (_ : Unit), (P ∧ Wks [z6, AV.lst false 1 (List.map i0 ys), s0 s, s0 (t ++ ⟨⟨[]⟩⟩ ++ ByteArray.extract s z8 z9 ++ ⟨⟨[]⟩⟩), s0 (u ++ ⟨⟨[(32 : UInt8), (110 : UInt8), (111 : UInt8), (116 : UInt8), (32 : UInt8)]⟩⟩), i0 z5] [z6, AV.lst false 1 (List.map i0 ys), s0 s, s0 t1, s0 u1, i0 z5] ∧ hpL z4 = hpL z4) ∧ Ex.exit 0 = Ex.exit 0 ∧ Wk (AV.tup [z6, s0 tt, s0 uu]) (AV.tup [z6, s0 tt, s0 uu]) ∧ SameH (hpL z4) (hpL z4))))))))))))))))) := by kernel_rfl
def orPl4T : Orc := Orc.t (HF (HF (HF (HF (HT (HT (HT (Orc.t (Orc.f (Orc.f (Orc.f (Orc.f Orc.z))))))))))))
theorem rPl4T_vc (P : Prop) (n : Nd) (ys : List Int) (s t : ByteArray) (u t1 u1 : ByteArray) (i : Int) (tt uu : ByteArray) : rPl4T orPl4T P n ys s t u t1 u1 i tt uu = (let z1 := (ByteArray.extract s (Int.toNat (Option.getD (some i) (0 : Int))) (Int.toNat (Option.getD (some (i + (1 : Int))) (↑(ByteArray.size s) : Int)))); let z2 := (↑(ByteArray.size s) : Int); let z3 := [(32 : UInt8), (10 : UInt8), (32 : UInt8)]; let z4 := (↑(byteAt s (Int.toNat i)) : Int); let z5 := (Int.toNat (Option.getD (some (i + (1 : Int))) z2)); let z6 := ((0 : Int) ≤ i ∧ i < z2); let z7 := (Int.toNat (Option.getD (some i) (0 : Int))); let z8 := [eR 1048577 [0, 0] 5 [encP n]]; let z9 := AV.ptr 1048577 [0, 0] 0 0; let z10 := (List.map i0 ys); let z11 := (i + (1 : Int)); let z12 := [(32 : UInt8)]; decide (i < z2) = true ∧ decide z6 = true ∧ (z4 == (43 : Int)) = false ∧ Nf (Nf (decide z6 = true ∧ Nf ((z4 == (45 : Int)) = false ∧ Nf (Nf (decide z6 = true ∧ Nf ((z4 == (38 : Int)) = false ∧ Nf (Nf (decide z6 = true ∧ Nf ((z4 == (33 : Int)) = false ∧ Nf (Nf (decide z6 = true ∧ Nf ((z4 == (40 : Int)) = true ∧ Yt4 (Yt4 (Yt (Yt (Yt (decide (i < (↑(List.length z10) : Int)) = true ∧ (decide ((0 : Int) ≤ i ∧ i < (↑(List.length z10) : Int)) && (true && (isShp (Cx.B (cxV XPl 10 fPbl)) shN 3 (List.getD z10 (Int.toNat i) (AV.lit (Value.tuple { toList := [] }))) && (false || true)))) = true ∧ ∃ (i1 : Int × Int), (((0 : Int) < Prod.snd i1 ∧ Prod.snd i1 ≤ (1000000 : Int)) ∧ Wks [i0 (intA (List.getD z10 (Int.toNat i) (AV.lit (Value.tuple { toList := [] })))), i0 (4 : Int)] [i0 (Prod.fst i1), i0 (Prod.snd i1)] ∧ hpL [] = hpL []) ∧ (decide ((0 : Int) ≤ Prod.fst i1 % Prod.snd i1 ∧ Prod.fst i1 % Prod.snd i1 < (4 : Int)) && true) = true ∧ inR IntKind.i64 z11 = true ∧ decide ((0 : Int) ≤ Option.getD (some i) (0 : Int) ∧ Option.getD (some i) (0 : Int) ≤ Option.getD (some z11) z2 ∧ Option.getD (some z11) z2 ≤ z2 ∧ false = false) = true ∧ decide (ByteArray.size t + ByteArray.size (List.getD (strsOf [Value.string ⟨⟨[]⟩⟩, Value.string { data := { toList := z12 } }, Value.string ⟨⟨[(9 : UInt8)]⟩⟩, Value.string { data := { toList := z3 } }]) (Int.toNat (Prod.fst i1 % Prod.snd i1)) ByteArray.empty) ≤ 9223372036854775807) = true ∧ decide (ByteArray.size (t ++ List.getD (strsOf [Value.string ⟨⟨[]⟩⟩, Value.string { data := { toList := z12 } }, Value.string ⟨⟨[(9 : UInt8)]⟩⟩, Value.string { data := { toList := z3 } }]) (Int.toNat (Prod.fst i1 % Prod.snd i1)) ByteArray.empty) + ByteArray.size z1 ≤ 9223372036854775807) = true ∧ decide (ByteArray.size (t ++ List.getD (strsOf [Value.string ⟨⟨[]⟩⟩, Value.string { data := { toList := z12 } }, Value.string ⟨⟨[(9 : UInt8)]⟩⟩, Value.string { data := { toList := z3 } }]) (Int.toNat (Prod.fst i1 % Prod.snd i1)) ByteArray.empty ++ ByteArray.extract s z7 z5) + ByteArray.size (List.getD (strsOf [Value.string ⟨⟨[]⟩⟩, Value.string { data := { toList := z12 } }, Value.string ⟨⟨[(9 : UInt8)]⟩⟩, Value.string { data := { toList := z3 } }]) (Int.toNat (Prod.fst i1 % Prod.snd i1)) ByteArray.empty) ≤ 9223372036854775807) = true ∧ (ByteArray.toList z1 == ByteArray.toList ⟨⟨[(43 : UInt8)]⟩⟩) = false ∧ (ByteArray.toList z1 == ByteArray.toList ⟨⟨[(45 : UInt8)]⟩⟩) = false ∧ (ByteArray.toList z1 == ByteArray.toList ⟨⟨[(38 : UInt8)]⟩⟩) = false ∧ (ByteArray.toList z1 == ByteArray.toList ⟨⟨[(33 : UInt8)]⟩⟩) = false ∧ decide (ByteArray.size u + ByteArray.size z1 ≤ 9223372036854775807) = true ∧ inR IntKind.i64 z11 = true ∧ ∃ (_ : Unit), (P ∧ Wks [z9, AV.lst false 1 z10, s0 s, s0 (t ++ List.getD (strsOf [Value.string ⟨⟨[]⟩⟩, Value.string { data := { toList := z12 } }, Value.string ⟨⟨[(9 : UInt8)]⟩⟩, Value.string { data := { toList := z3 } }]) (Int.toNat (Prod.fst i1 % Prod.snd i1)) ByteArray.empty ++ ByteArray.extract s z7 z5 ++ List.getD (strsOf [Value.string ⟨⟨[]⟩⟩, Value.string { data := { toList := z12 } }, Value.string ⟨⟨[(9 : UInt8)]⟩⟩, Value.string { data := { toList := z3 } }]) (Int.toNat (Prod.fst i1 % Prod.snd i1)) ByteArray.empty), s0 (u ++ ByteArray.extract s z7 z5), i0 z11] [z9, AV.lst false 1 z10, s0 s, s0 t1, s0 u1, i0 z11] ∧ hpL z8 = hpL z8) ∧ Ex.exit 0 = Ex.exit 0 ∧ Wk (AV.tup [z9, s0 tt, s0 uu]) (AV.tup [z9, s0 tt, s0 uu]) ∧ SameH (hpL z8) (hpL z8))))))))))))))))))) := by kernel_rfl
def orPl4F : Orc := Orc.t (HF (HF (HF (HF (HT (HT (HT (HF (Orc.f Orc.z)))))))))
theorem rPl4F_vc (P : Prop) (n : Nd) (ys : List Int) (s t : ByteArray) (u t1 u1 : ByteArray) (i : Int) (tt uu : ByteArray) : rPl4F orPl4F P n ys s t u t1 u1 i tt uu = (let z1 := (ByteArray.extract s (Int.toNat (Option.getD (some i) (0 : Int))) (Int.toNat (Option.getD (some (i + (1 : Int))) (↑(ByteArray.size s) : Int)))); let z2 := (↑(ByteArray.size s) : Int); let z3 := (↑(byteAt s (Int.toNat i)) : Int); let z4 := (Int.toNat (Option.getD (some (i + (1 : Int))) z2)); let z5 := ((0 : Int) ≤ i ∧ i < z2); let z6 := (Int.toNat (Option.getD (some i) (0 : Int))); let z7 := [eR 1048577 [0, 0] 5 [encP n]]; let z8 := AV.ptr 1048577 [0, 0] 0 0; let z9 := (i + (1 : Int)); decide (i < z2) = true ∧ decide z5 = true ∧ (z3 == (43 : Int)) = false ∧ Nf (Nf (decide z5 = true ∧ Nf ((z3 == (45 : Int)) = false ∧ Nf (Nf (decide z5 = true ∧ Nf ((z3 == (38 : Int)) = false ∧ Nf (Nf (decide z5 = true ∧ Nf ((z3 == (33 : Int)) = false ∧ Nf (Nf (decide z5 = true ∧ Nf ((z3 == (40 : Int)) = true ∧ Yt4 (Yt4 (Yt (Yt (Yt (decide (i < (↑(List.length (List.map i0 ys)) : Int)) = false ∧ inR IntKind.i64 z9 = true ∧ decide ((0 : Int) ≤ Option.getD (some i) (0 : Int) ∧ Option.getD (some i) (0 : Int) ≤ Option.getD (some z9) z2 ∧ Option.getD (some z9) z2 ≤ z2 ∧ false = false) = true ∧ decide (ByteArray.size t + 0 ≤ 9223372036854775807) = true ∧ decide (ByteArray.size (t ++ ⟨⟨[]⟩⟩) + ByteArray.size z1 ≤ 9223372036854775807) = true ∧ decide (ByteArray.size (t ++ ⟨⟨[]⟩⟩ ++ ByteArray.extract s z6 z4) + 0 ≤ 9223372036854775807) = true ∧ (ByteArray.toList z1 == ByteArray.toList ⟨⟨[(43 : UInt8)]⟩⟩) = false ∧ (ByteArray.toList z1 == ByteArray.toList ⟨⟨[(45 : UInt8)]⟩⟩) = false ∧ (ByteArray.toList z1 == ByteArray.toList ⟨⟨[(38 : UInt8)]⟩⟩) = false ∧ (ByteArray.toList z1 == ByteArray.toList ⟨⟨[(33 : UInt8)]⟩⟩) = false ∧ decide (ByteArray.size u + ByteArray.size z1 ≤ 9223372036854775807) = true ∧ inR IntKind.i64 z9 = true ∧ ∃ (_ : Unit), (P ∧ Wks [z8, AV.lst false 1 (List.map i0 ys), s0 s, s0 (t ++ ⟨⟨[]⟩⟩ ++ ByteArray.extract s z6 z4 ++ ⟨⟨[]⟩⟩), s0 (u ++ ByteArray.extract s z6 z4), i0 z9] [z8, AV.lst false 1 (List.map i0 ys), s0 s, s0 t1, s0 u1, i0 z9] ∧ hpL z7 = hpL z7) ∧ Ex.exit 0 = Ex.exit 0 ∧ Wk (AV.tup [z8, s0 tt, s0 uu]) (AV.tup [z8, s0 tt, s0 uu]) ∧ SameH (hpL z7) (hpL z7))))))))))))))))))) := by kernel_rfl
def orPl5T : Orc := Orc.t (HF (HF (HF (HF (HF (HT (HT (Orc.t (Orc.f (Orc.f (Orc.f (Orc.f Orc.z))))))))))))
theorem rPl5T_vc (P : Prop) (n : Nd) (ys : List Int) (s t : ByteArray) (u t1 u1 : ByteArray) (i : Int) (tt uu : ByteArray) : rPl5T orPl5T P n ys s t u t1 u1 i tt uu = (let z1 := (ByteArray.extract s (Int.toNat (Option.getD (some i) (0 : Int))) (Int.toNat (Option.getD (some (i + (1 : Int))) (↑(ByteArray.size s) : Int)))); let z2 := (↑(ByteArray.size s) : Int); let z3 := [(32 : UInt8), (10 : UInt8), (32 : UInt8)]; let z4 := (↑(byteAt s (Int.toNat i)) : Int); let z5 := ((0 : Int) ≤ i ∧ i < z2); let z6 := (Int.toNat (Option.getD (some (i + (1 : Int))) z2)); let z7 := (Int.toNat (Option.getD (some i) (0 : Int))); let z8 := [eR 1048577 [0, 0] 5 [encP n]]; let z9 := AV.ptr 1048577 [0, 0] 0 0; let z10 := (List.map i0 ys); let z11 := (i + (1 : Int)); let z12 := [(32 : UInt8)]; decide (i < z2) = true ∧ decide z5 = true ∧ (z4 == (43 : Int)) = false ∧ Nf (Nf (decide z5 = true ∧ Nf ((z4 == (45 : Int)) = false ∧ Nf (Nf (decide z5 = true ∧ Nf ((z4 == (38 : Int)) = false ∧ Nf (Nf (decide z5 = true ∧ Nf ((z4 == (33 : Int)) = false ∧ Nf (Nf (decide z5 = true ∧ Nf ((z4 == (40 : Int)) = false ∧ Nf (Nf (decide z5 = true ∧ Nf ((z4 == (41 : Int)) = true ∧ Yt4 (Yt (Yt (Yt (decide (i < (↑(List.length z10) : Int)) = true ∧ (decide ((0 : Int) ≤ i ∧ i < (↑(List.length z10) : Int)) && (true && (isShp (Cx.B (cxV XPl 10 fPbl)) shN 3 (List.getD z10 (Int.toNat i) (AV.lit (Value.tuple { toList := [] }))) && (false || true)))) = true ∧ ∃ (i1 : Int × Int), (((0 : Int) < Prod.snd i1 ∧ Prod.snd i1 ≤ (1000000 : Int)) ∧ Wks [i0 (intA (List.getD z10 (Int.toNat i) (AV.lit (Value.tuple { toList := [] })))), i0 (4 : Int)] [i0 (Prod.fst i1), i0 (Prod.snd i1)] ∧ hpL [] = hpL []) ∧ (decide ((0 : Int) ≤ Prod.fst i1 % Prod.snd i1 ∧ Prod.fst i1 % Prod.snd i1 < (4 : Int)) && true) = true ∧ inR IntKind.i64 z11 = true ∧ decide ((0 : Int) ≤ Option.getD (some i) (0 : Int) ∧ Option.getD (some i) (0 : Int) ≤ Option.getD (some z11) z2 ∧ Option.getD (some z11) z2 ≤ z2 ∧ false = false) = true ∧ decide (ByteArray.size t + ByteArray.size (List.getD (strsOf [Value.string ⟨⟨[]⟩⟩, Value.string { data := { toList := z12 } }, Value.string ⟨⟨[(9 : UInt8)]⟩⟩, Value.string { data := { toList := z3 } }]) (Int.toNat (Prod.fst i1 % Prod.snd i1)) ByteArray.empty) ≤ 9223372036854775807) = true ∧ decide (ByteArray.size (t ++ List.getD (strsOf [Value.string ⟨⟨[]⟩⟩, Value.string { data := { toList := z12 } }, Value.string ⟨⟨[(9 : UInt8)]⟩⟩, Value.string { data := { toList := z3 } }]) (Int.toNat (Prod.fst i1 % Prod.snd i1)) ByteArray.empty) + ByteArray.size z1 ≤ 9223372036854775807) = true ∧ decide (ByteArray.size (t ++ List.getD (strsOf [Value.string ⟨⟨[]⟩⟩, Value.string { data := { toList := z12 } }, Value.string ⟨⟨[(9 : UInt8)]⟩⟩, Value.string { data := { toList := z3 } }]) (Int.toNat (Prod.fst i1 % Prod.snd i1)) ByteArray.empty ++ ByteArray.extract s z7 z6) + ByteArray.size (List.getD (strsOf [Value.string ⟨⟨[]⟩⟩, Value.string { data := { toList := z12 } }, Value.string ⟨⟨[(9 : UInt8)]⟩⟩, Value.string { data := { toList := z3 } }]) (Int.toNat (Prod.fst i1 % Prod.snd i1)) ByteArray.empty) ≤ 9223372036854775807) = true ∧ (ByteArray.toList z1 == ByteArray.toList ⟨⟨[(43 : UInt8)]⟩⟩) = false ∧ (ByteArray.toList z1 == ByteArray.toList ⟨⟨[(45 : UInt8)]⟩⟩) = false ∧ (ByteArray.toList z1 == ByteArray.toList ⟨⟨[(38 : UInt8)]⟩⟩) = false ∧ (ByteArray.toList z1 == ByteArray.toList ⟨⟨[(33 : UInt8)]⟩⟩) = false ∧ decide (ByteArray.size u + ByteArray.size z1 ≤ 9223372036854775807) = true ∧ inR IntKind.i64 z11 = true ∧ ∃ (_ : Unit), (P ∧ Wks [z9, AV.lst false 1 z10, s0 s, s0 (t ++ List.getD (strsOf [Value.string ⟨⟨[]⟩⟩, Value.string { data := { toList := z12 } }, Value.string ⟨⟨[(9 : UInt8)]⟩⟩, Value.string { data := { toList := z3 } }]) (Int.toNat (Prod.fst i1 % Prod.snd i1)) ByteArray.empty ++ ByteArray.extract s z7 z6 ++ List.getD (strsOf [Value.string ⟨⟨[]⟩⟩, Value.string { data := { toList := z12 } }, Value.string ⟨⟨[(9 : UInt8)]⟩⟩, Value.string { data := { toList := z3 } }]) (Int.toNat (Prod.fst i1 % Prod.snd i1)) ByteArray.empty), s0 (u ++ ByteArray.extract s z7 z6), i0 z11] [z9, AV.lst false 1 z10, s0 s, s0 t1, s0 u1, i0 z11] ∧ hpL z8 = hpL z8) ∧ Ex.exit 0 = Ex.exit 0 ∧ Wk (AV.tup [z9, s0 tt, s0 uu]) (AV.tup [z9, s0 tt, s0 uu]) ∧ SameH (hpL z8) (hpL z8))))))))))))))))))))) := by kernel_rfl
def orPl5F : Orc := Orc.t (HF (HF (HF (HF (HF (HT (HT (HF (Orc.f Orc.z)))))))))
theorem rPl5F_vc (P : Prop) (n : Nd) (ys : List Int) (s t : ByteArray) (u t1 u1 : ByteArray) (i : Int) (tt uu : ByteArray) : rPl5F orPl5F P n ys s t u t1 u1 i tt uu = (let z1 := (ByteArray.extract s (Int.toNat (Option.getD (some i) (0 : Int))) (Int.toNat (Option.getD (some (i + (1 : Int))) (↑(ByteArray.size s) : Int)))); let z2 := (↑(ByteArray.size s) : Int); let z3 := (↑(byteAt s (Int.toNat i)) : Int); let z4 := ((0 : Int) ≤ i ∧ i < z2); let z5 := (Int.toNat (Option.getD (some (i + (1 : Int))) z2)); let z6 := (Int.toNat (Option.getD (some i) (0 : Int))); let z7 := [eR 1048577 [0, 0] 5 [encP n]]; let z8 := AV.ptr 1048577 [0, 0] 0 0; let z9 := (i + (1 : Int)); decide (i < z2) = true ∧ decide z4 = true ∧ (z3 == (43 : Int)) = false ∧ Nf (Nf (decide z4 = true ∧ Nf ((z3 == (45 : Int)) = false ∧ Nf (Nf (decide z4 = true ∧ Nf ((z3 == (38 : Int)) = false ∧ Nf (Nf (decide z4 = true ∧ Nf ((z3 == (33 : Int)) = false ∧ Nf (Nf (decide z4 = true ∧ Nf ((z3 == (40 : Int)) = false ∧ Nf (Nf (decide z4 = true ∧ Nf ((z3 == (41 : Int)) = true ∧ Yt4 (Yt (Yt (Yt (decide (i < (↑(List.length (List.map i0 ys)) : Int)) = false ∧ inR IntKind.i64 z9 = true ∧ decide ((0 : Int) ≤ Option.getD (some i) (0 : Int) ∧ Option.getD (some i) (0 : Int) ≤ Option.getD (some z9) z2 ∧ Option.getD (some z9) z2 ≤ z2 ∧ false = false) = true ∧ decide (ByteArray.size t + 0 ≤ 9223372036854775807) = true ∧ decide (ByteArray.size (t ++ ⟨⟨[]⟩⟩) + ByteArray.size z1 ≤ 9223372036854775807) = true ∧ decide (ByteArray.size (t ++ ⟨⟨[]⟩⟩ ++ ByteArray.extract s z6 z5) + 0 ≤ 9223372036854775807) = true ∧ (ByteArray.toList z1 == ByteArray.toList ⟨⟨[(43 : UInt8)]⟩⟩) = false ∧ (ByteArray.toList z1 == ByteArray.toList ⟨⟨[(45 : UInt8)]⟩⟩) = false ∧ (ByteArray.toList z1 == ByteArray.toList ⟨⟨[(38 : UInt8)]⟩⟩) = false ∧ (ByteArray.toList z1 == ByteArray.toList ⟨⟨[(33 : UInt8)]⟩⟩) = false ∧ decide (ByteArray.size u + ByteArray.size z1 ≤ 9223372036854775807) = true ∧ inR IntKind.i64 z9 = true ∧ ∃ (_ : Unit), (P ∧ Wks [z8, AV.lst false 1 (List.map i0 ys), s0 s, s0 (t ++ ⟨⟨[]⟩⟩ ++ ByteArray.extract s z6 z5 ++ ⟨⟨[]⟩⟩), s0 (u ++ ByteArray.extract s z6 z5), i0 z9] [z8, AV.lst false 1 (List.map i0 ys), s0 s, s0 t1, s0 u1, i0 z9] ∧ hpL z7 = hpL z7) ∧ Ex.exit 0 = Ex.exit 0 ∧ Wk (AV.tup [z8, s0 tt, s0 uu]) (AV.tup [z8, s0 tt, s0 uu]) ∧ SameH (hpL z7) (hpL z7))))))))))))))))))))) := by kernel_rfl
def orPl6T : Orc := Orc.t (HF (HF (HF (HF (HF (HF (HT (Orc.t (Orc.f (Orc.f (Orc.f (Orc.f Orc.z))))))))))))
theorem rPl6T_vc (P : Prop) (n : Nd) (ys : List Int) (s t : ByteArray) (u t1 u1 : ByteArray) (i : Int) (tt uu : ByteArray) : rPl6T orPl6T P n ys s t u t1 u1 i tt uu = (let z1 := (ByteArray.extract s (Int.toNat (Option.getD (some i) (0 : Int))) (Int.toNat (Option.getD (some (i + (1 : Int))) (↑(ByteArray.size s) : Int)))); let z2 := (↑(ByteArray.size s) : Int); let z3 := [(32 : UInt8), (10 : UInt8), (32 : UInt8)]; let z4 := (↑(byteAt s (Int.toNat i)) : Int); let z5 := ((0 : Int) ≤ i ∧ i < z2); let z6 := (Int.toNat (Option.getD (some (i + (1 : Int))) z2)); let z7 := (Int.toNat (Option.getD (some i) (0 : Int))); let z8 := [eR 1048577 [0, 0] 5 [encP n]]; let z9 := AV.ptr 1048577 [0, 0] 0 0; let z10 := (List.map i0 ys); let z11 := (i + (1 : Int)); let z12 := [(32 : UInt8)]; decide (i < z2) = true ∧ decide z5 = true ∧ (z4 == (43 : Int)) = false ∧ Nf (Nf (decide z5 = true ∧ Nf ((z4 == (45 : Int)) = false ∧ Nf (Nf (decide z5 = true ∧ Nf ((z4 == (38 : Int)) = false ∧ Nf (Nf (decide z5 = true ∧ Nf ((z4 == (33 : Int)) = false ∧ Nf (Nf (decide z5 = true ∧ Nf ((z4 == (40 : Int)) = false ∧ Nf (Nf (decide z5 = true ∧ Nf ((z4 == (41 : Int)) = false ∧ Nf (Nf (decide z5 = true ∧ Nf ((z4 == (44 : Int)) = true ∧ Yt (Yt (Yt (decide (i < (↑(List.length z10) : Int)) = true ∧ (decide ((0 : Int) ≤ i ∧ i < (↑(List.length z10) : Int)) && (true && (isShp (Cx.B (cxV XPl 10 fPbl)) shN 3 (List.getD z10 (Int.toNat i) (AV.lit (Value.tuple { toList := [] }))) && (false || true)))) = true ∧ ∃ (i1 : Int × Int), (((0 : Int) < Prod.snd i1 ∧ Prod.snd i1 ≤ (1000000 : Int)) ∧ Wks [i0 (intA (List.getD z10 (Int.toNat i) (AV.lit (Value.tuple { toList := [] })))), i0 (4 : Int)] [i0 (Prod.fst i1), i0 (Prod.snd i1)] ∧ hpL [] = hpL []) ∧ (decide ((0 : Int) ≤ Prod.fst i1 % Prod.snd i1 ∧ Prod.fst i1 % Prod.snd i1 < (4 : Int)) && true) = true ∧ inR IntKind.i64 z11 = true ∧ decide ((0 : Int) ≤ Option.getD (some i) (0 : Int) ∧ Option.getD (some i) (0 : Int) ≤ Option.getD (some z11) z2 ∧ Option.getD (some z11) z2 ≤ z2 ∧ false = false) = true ∧ decide (ByteArray.size t + ByteArray.size (List.getD (strsOf [Value.string ⟨⟨[]⟩⟩, Value.string { data := { toList := z12 } }, Value.string ⟨⟨[(9 : UInt8)]⟩⟩, Value.string { data := { toList := z3 } }]) (Int.toNat (Prod.fst i1 % Prod.snd i1)) ByteArray.empty) ≤ 9223372036854775807) = true ∧ decide (ByteArray.size (t ++ List.getD (strsOf [Value.string ⟨⟨[]⟩⟩, Value.string { data := { toList := z12 } }, Value.string ⟨⟨[(9 : UInt8)]⟩⟩, Value.string { data := { toList := z3 } }]) (Int.toNat (Prod.fst i1 % Prod.snd i1)) ByteArray.empty) + ByteArray.size z1 ≤ 9223372036854775807) = true ∧ decide (ByteArray.size (t ++ List.getD (strsOf [Value.string ⟨⟨[]⟩⟩, Value.string { data := { toList := z12 } }, Value.string ⟨⟨[(9 : UInt8)]⟩⟩, Value.string { data := { toList := z3 } }]) (Int.toNat (Prod.fst i1 % Prod.snd i1)) ByteArray.empty ++ ByteArray.extract s z7 z6) + ByteArray.size (List.getD (strsOf [Value.string ⟨⟨[]⟩⟩, Value.string { data := { toList := z12 } }, Value.string ⟨⟨[(9 : UInt8)]⟩⟩, Value.string { data := { toList := z3 } }]) (Int.toNat (Prod.fst i1 % Prod.snd i1)) ByteArray.empty) ≤ 9223372036854775807) = true ∧ (ByteArray.toList z1 == ByteArray.toList ⟨⟨[(43 : UInt8)]⟩⟩) = false ∧ (ByteArray.toList z1 == ByteArray.toList ⟨⟨[(45 : UInt8)]⟩⟩) = false ∧ (ByteArray.toList z1 == ByteArray.toList ⟨⟨[(38 : UInt8)]⟩⟩) = false ∧ (ByteArray.toList z1 == ByteArray.toList ⟨⟨[(33 : UInt8)]⟩⟩) = false ∧ decide (ByteArray.size u + ByteArray.size z1 ≤ 9223372036854775807) = true ∧ inR IntKind.i64 z11 = true ∧ ∃ (_ : Unit), (P ∧ Wks [z9, AV.lst false 1 z10, s0 s, s0 (t ++ List.getD (strsOf [Value.string ⟨⟨[]⟩⟩, Value.string { data := { toList := z12 } }, Value.string ⟨⟨[(9 : UInt8)]⟩⟩, Value.string { data := { toList := z3 } }]) (Int.toNat (Prod.fst i1 % Prod.snd i1)) ByteArray.empty ++ ByteArray.extract s z7 z6 ++ List.getD (strsOf [Value.string ⟨⟨[]⟩⟩, Value.string { data := { toList := z12 } }, Value.string ⟨⟨[(9 : UInt8)]⟩⟩, Value.string { data := { toList := z3 } }]) (Int.toNat (Prod.fst i1 % Prod.snd i1)) ByteArray.empty), s0 (u ++ ByteArray.extract s z7 z6), i0 z11] [z9, AV.lst false 1 z10, s0 s, s0 t1, s0 u1, i0 z11] ∧ hpL z8 = hpL z8) ∧ Ex.exit 0 = Ex.exit 0 ∧ Wk (AV.tup [z9, s0 tt, s0 uu]) (AV.tup [z9, s0 tt, s0 uu]) ∧ SameH (hpL z8) (hpL z8))))))))))))))))))))))) := by kernel_rfl
def orPl6F : Orc := Orc.t (HF (HF (HF (HF (HF (HF (HT (HF (Orc.f Orc.z)))))))))
theorem rPl6F_vc (P : Prop) (n : Nd) (ys : List Int) (s t : ByteArray) (u t1 u1 : ByteArray) (i : Int) (tt uu : ByteArray) : rPl6F orPl6F P n ys s t u t1 u1 i tt uu = (let z1 := (ByteArray.extract s (Int.toNat (Option.getD (some i) (0 : Int))) (Int.toNat (Option.getD (some (i + (1 : Int))) (↑(ByteArray.size s) : Int)))); let z2 := (↑(ByteArray.size s) : Int); let z3 := (↑(byteAt s (Int.toNat i)) : Int); let z4 := ((0 : Int) ≤ i ∧ i < z2); let z5 := (Int.toNat (Option.getD (some (i + (1 : Int))) z2)); let z6 := (Int.toNat (Option.getD (some i) (0 : Int))); let z7 := [eR 1048577 [0, 0] 5 [encP n]]; let z8 := AV.ptr 1048577 [0, 0] 0 0; let z9 := (i + (1 : Int)); decide (i < z2) = true ∧ decide z4 = true ∧ (z3 == (43 : Int)) = false ∧ Nf (Nf (decide z4 = true ∧ Nf ((z3 == (45 : Int)) = false ∧ Nf (Nf (decide z4 = true ∧ Nf ((z3 == (38 : Int)) = false ∧ Nf (Nf (decide z4 = true ∧ Nf ((z3 == (33 : Int)) = false ∧ Nf (Nf (decide z4 = true ∧ Nf ((z3 == (40 : Int)) = false ∧ Nf (Nf (decide z4 = true ∧ Nf ((z3 == (41 : Int)) = false ∧ Nf (Nf (decide z4 = true ∧ Nf ((z3 == (44 : Int)) = true ∧ Yt (Yt (Yt (decide (i < (↑(List.length (List.map i0 ys)) : Int)) = false ∧ inR IntKind.i64 z9 = true ∧ decide ((0 : Int) ≤ Option.getD (some i) (0 : Int) ∧ Option.getD (some i) (0 : Int) ≤ Option.getD (some z9) z2 ∧ Option.getD (some z9) z2 ≤ z2 ∧ false = false) = true ∧ decide (ByteArray.size t + 0 ≤ 9223372036854775807) = true ∧ decide (ByteArray.size (t ++ ⟨⟨[]⟩⟩) + ByteArray.size z1 ≤ 9223372036854775807) = true ∧ decide (ByteArray.size (t ++ ⟨⟨[]⟩⟩ ++ ByteArray.extract s z6 z5) + 0 ≤ 9223372036854775807) = true ∧ (ByteArray.toList z1 == ByteArray.toList ⟨⟨[(43 : UInt8)]⟩⟩) = false ∧ (ByteArray.toList z1 == ByteArray.toList ⟨⟨[(45 : UInt8)]⟩⟩) = false ∧ (ByteArray.toList z1 == ByteArray.toList ⟨⟨[(38 : UInt8)]⟩⟩) = false ∧ (ByteArray.toList z1 == ByteArray.toList ⟨⟨[(33 : UInt8)]⟩⟩) = false ∧ decide (ByteArray.size u + ByteArray.size z1 ≤ 9223372036854775807) = true ∧ inR IntKind.i64 z9 = true ∧ ∃ (_ : Unit), (P ∧ Wks [z8, AV.lst false 1 (List.map i0 ys), s0 s, s0 (t ++ ⟨⟨[]⟩⟩ ++ ByteArray.extract s z6 z5 ++ ⟨⟨[]⟩⟩), s0 (u ++ ByteArray.extract s z6 z5), i0 z9] [z8, AV.lst false 1 (List.map i0 ys), s0 s, s0 t1, s0 u1, i0 z9] ∧ hpL z7 = hpL z7) ∧ Ex.exit 0 = Ex.exit 0 ∧ Wk (AV.tup [z8, s0 tt, s0 uu]) (AV.tup [z8, s0 tt, s0 uu]) ∧ SameH (hpL z7) (hpL z7))))))))))))))))))))))) := by kernel_rfl
def orPl7 : Orc := Orc.t (HF (HF (HF (HF (HF (HF (HF (HF (Orc.f Orc.z)))))))))
theorem rPl7_vc (P : Prop) (n : Nd) (ys : List Int) (s t : ByteArray) (u t1 u1 : ByteArray) (i : Int) (tt uu : ByteArray) : rPl7 orPl7 P n ys s t u t1 u1 i tt uu = (let z1 := (ByteArray.extract s (Int.toNat (Option.getD (some i) (0 : Int))) (Int.toNat (Option.getD (some (i + (1 : Int))) (↑(ByteArray.size s) : Int)))); let z2 := (↑(ByteArray.size s) : Int); let z3 := (↑(byteAt s (Int.toNat i)) : Int); let z4 := ((0 : Int) ≤ i ∧ i < z2); let z5 := (Int.toNat (Option.getD (some (i + (1 : Int))) z2)); let z6 := (Int.toNat (Option.getD (some i) (0 : Int))); let z7 := [eR 1048577 [0, 0] 5 [encP n]]; let z8 := AV.ptr 1048577 [0, 0] 0 0; let z9 := (i + (1 : Int)); decide (i < z2) = true ∧ decide z4 = true ∧ (z3 == (43 : Int)) = false ∧ Nf (Nf (decide z4 = true ∧ Nf ((z3 == (45 : Int)) = false ∧ Nf (Nf (decide z4 = true ∧ Nf ((z3 == (38 : Int)) = false ∧ Nf (Nf (decide z4 = true ∧ Nf ((z3 == (33 : Int)) = false ∧ Nf (Nf (decide z4 = true ∧ Nf ((z3 == (40 : Int)) = false ∧ Nf (Nf (decide z4 = true ∧ Nf ((z3 == (41 : Int)) = false ∧ Nf (Nf (decide z4 = true ∧ Nf ((z3 == (44 : Int)) = false ∧ Nf4 (inR IntKind.i64 z9 = true ∧ decide ((0 : Int) ≤ Option.getD (some i) (0 : Int) ∧ Option.getD (some i) (0 : Int) ≤ Option.getD (some z9) z2 ∧ Option.getD (some z9) z2 ≤ z2 ∧ false = false) = true ∧ decide (ByteArray.size t + 0 ≤ 9223372036854775807) = true ∧ decide (ByteArray.size (t ++ ⟨⟨[]⟩⟩) + ByteArray.size z1 ≤ 9223372036854775807) = true ∧ decide (ByteArray.size (t ++ ⟨⟨[]⟩⟩ ++ ByteArray.extract s z6 z5) + 0 ≤ 9223372036854775807) = true ∧ (ByteArray.toList z1 == ByteArray.toList ⟨⟨[(43 : UInt8)]⟩⟩) = false ∧ (ByteArray.toList z1 == ByteArray.toList ⟨⟨[(45 : UInt8)]⟩⟩) = false ∧ (ByteArray.toList z1 == ByteArray.toList ⟨⟨[(38 : UInt8)]⟩⟩) = false ∧ (ByteArray.toList z1 == ByteArray.toList ⟨⟨[(33 : UInt8)]⟩⟩) = false ∧ decide (ByteArray.size u + ByteArray.size z1 ≤ 9223372036854775807) = true ∧ inR IntKind.i64 z9 = true ∧ ∃ (_ : Unit), (P ∧ Wks [z8, AV.lst false 1 (List.map i0 ys), s0 s, s0 (t ++ ⟨⟨[]⟩⟩ ++ ByteArray.extract s z6 z5 ++ ⟨⟨[]⟩⟩), s0 (u ++ ByteArray.extract s z6 z5), i0 z9] [z8, AV.lst false 1 (List.map i0 ys), s0 s, s0 t1, s0 u1, i0 z9] ∧ hpL z7 = hpL z7) ∧ Ex.exit 0 = Ex.exit 0 ∧ Wk (AV.tup [z8, s0 tt, s0 uu]) (AV.tup [z8, s0 tt, s0 uu]) ∧ SameH (hpL z7) (hpL z7))))))))))))))))))))) := by kernel_rfl
theorem gBlL_vc (xs ys : List AV) (s : ByteArray) : gBlL (Orc.f (Orc.f (Orc.t Orc.z))) xs ys s = (let z1 := (True ∧ Wks [] [] ∧ hpL [] = hpL []); U1 [AV.lst false 1 xs] [] (U1 [s0 s] [] (∃ (_ : Unit), z1 ∧ Nf (Nf (Yt (∃ (_ : Unit), z1 ∧ b0 true = b0 true)))))) := by kernel_rfl
theorem gBlB_vc (xs ys : List AV) (s : ByteArray) (k a : Int) : gBlB (Orc.f (Orc.f (Orc.t Orc.z))) xs ys s k a = (let z1 := (True ∧ Wks [] [] ∧ hpL [] = hpL []); U1 [AV.lst false 1 xs] [] (U1 [s0 s] [] (∃ (_ : Unit), z1 ∧ Nf (Nf (Yt (∃ (_ : Unit), z1 ∧ b0 true = b0 true)))))) := by kernel_rfl
def ogBlTT : Orc := Orc.alt 0 (Orc.f (Orc.f (Orc.f (Orc.t (Orc.alt 1 (Orc.f (Orc.f (Orc.f (Orc.alt 0 (Orc.f (Orc.f (Orc.t (Orc.alt 2 (Orc.f (Orc.f (Orc.f (Orc.alt 1 (Orc.f (Orc.f Orc.z)))))))))))))))))))
theorem gBlTT_vc (xs : List AV) (ys : List Int) (s p : ByteArray) (tt uu : ByteArray) (n m1 m2 : Nd) : gBlTT ogBlTT xs ys s p tt uu n m1 m2 = (U1 [AV.lst false 1 xs] [] (U1 [s0 s] [] (U1 [] [] (Nf (Nf (Nf (U1 [encP n] [] (∃ (_ : Unit), (True ∧ Wks [AV.ptr 1048577 [0, 0] 0 0, AV.lst false 1 (List.map i0 ys), s0 p, s0 ⟨⟨[]⟩⟩, s0 ⟨⟨[]⟩⟩, i0 (0 : Int)] [AV.ptr 1048577 [0, 0] 0 0, AV.lst false 1 (List.map i0 ys), s0 p, s0 ByteArray.empty, s0 ByteArray.empty, i0 (0 : Int)] ∧ hpL [eR 1048577 [0, 0] 5 [encP n]] = hpL [eR 1048577 [0, 0] 5 [encP n]]) ∧ decide ((↑(ByteArray.size tt) : Int) ≤ (600 : Int)) = true ∧ U1 [s0 tt] [] (Nf (Nf (Nf (U1 [encP n, encP m1] [] (Nf (Nf (decide ((↑(ByteArray.size uu) : Int) ≤ (600 : Int)) = true ∧ U1 [s0 uu] [] (Nf (Nf (Nf (U1 [encP n, encP m2] [] (Nf (Nf (b0 true = b0 true)))))))))))))))))))))) := by kernel_rfl
def ogBlTF : Orc := Orc.alt 0 (Orc.f (Orc.f (Orc.f (Orc.t (Orc.alt 1 (Orc.f (Orc.f (Orc.f (Orc.alt 0 (Orc.f (Orc.f (Orc.f Orc.z))))))))))))
theorem gBlTF_vc (xs : List AV) (ys : List Int) (s p : ByteArray) (tt uu : ByteArray) (n m1 : Nd) : gBlTF ogBlTF xs ys s p tt uu n m1 = (U1 [AV.lst false 1 xs] [] (U1 [s0 s] [] (U1 [] [] (Nf (Nf (Nf (U1 [encP n] [] (∃ (_ : Unit), (True ∧ Wks [AV.ptr 1048577 [0, 0] 0 0, AV.lst false 1 (List.map i0 ys), s0 p, s0 ⟨⟨[]⟩⟩, s0 ⟨⟨[]⟩⟩, i0 (0 : Int)] [AV.ptr 1048577 [0, 0] 0 0, AV.lst false 1 (List.map i0 ys), s0 p, s0 ByteArray.empty, s0 ByteArray.empty, i0 (0 : Int)] ∧ hpL [eR 1048577 [0, 0] 5 [encP n]] = hpL [eR 1048577 [0, 0] 5 [encP n]]) ∧ decide ((↑(ByteArray.size tt) : Int) ≤ (600 : Int)) = true ∧ U1 [s0 tt] [] (Nf (Nf (Nf (U1 [encP n, encP m1] [] (Nf (Nf (decide ((↑(ByteArray.size uu) : Int) ≤ (600 : Int)) = false ∧ b0 true = b0 true))))))))))))))) := by kernel_rfl
def ogBlFT : Orc := Orc.alt 0 (HF (Orc.t (Orc.alt 2 (Orc.f (Orc.f (Orc.f (Orc.alt 1 (Orc.f (Orc.f Orc.z)))))))))
theorem gBlFT_vc (xs : List AV) (ys : List Int) (s p : ByteArray) (tt uu : ByteArray) (n m2 : Nd) : gBlFT ogBlFT xs ys s p tt uu n m2 = (U1 [AV.lst false 1 xs] [] (U1 [s0 s] [] (U1 [] [] (Nf (Nf (Nf (U1 [encP n] [] (∃ (_ : Unit), (True ∧ Wks [AV.ptr 1048577 [0, 0] 0 0, AV.lst false 1 (List.map i0 ys), s0 p, s0 ⟨⟨[]⟩⟩, s0 ⟨⟨[]⟩⟩, i0 (0 : Int)] [AV.ptr 1048577 [0, 0] 0 0, AV.lst false 1 (List.map i0 ys), s0 p, s0 ByteArray.empty, s0 ByteArray.empty, i0 (0 : Int)] ∧ hpL [eR 1048577 [0, 0] 5 [encP n]] = hpL [eR 1048577 [0, 0] 5 [encP n]]) ∧ decide ((↑(ByteArray.size tt) : Int) ≤ (600 : Int)) = false ∧ decide ((↑(ByteArray.size uu) : Int) ≤ (600 : Int)) = true ∧ U1 [s0 uu] [] (Nf (Nf (Nf (U1 [encP n, encP m2] [] (Nf (Nf (b0 true = b0 true))))))))))))))) := by kernel_rfl
def ogBlFF : Orc := HF (Orc.f Orc.z)
theorem gBlFF_vc (xs : List AV) (ys : List Int) (s p : ByteArray) (tt uu : ByteArray) (n : Nd) : gBlFF ogBlFF xs ys s p tt uu n = (U1 [AV.lst false 1 xs] [] (U1 [s0 s] [] (U1 [] [] (Nf (Nf (Nf (U1 [encP n] [] (∃ (_ : Unit), (True ∧ Wks [AV.ptr 1048577 [0, 0] 0 0, AV.lst false 1 (List.map i0 ys), s0 p, s0 ⟨⟨[]⟩⟩, s0 ⟨⟨[]⟩⟩, i0 (0 : Int)] [AV.ptr 1048577 [0, 0] 0 0, AV.lst false 1 (List.map i0 ys), s0 p, s0 ByteArray.empty, s0 ByteArray.empty, i0 (0 : Int)] ∧ hpL [eR 1048577 [0, 0] 5 [encP n]] = hpL [eR 1048577 [0, 0] 5 [encP n]]) ∧ decide ((↑(ByteArray.size tt) : Int) ≤ (600 : Int)) = false ∧ decide ((↑(ByteArray.size uu) : Int) ≤ (600 : Int)) = false ∧ b0 true = b0 true)))))))) := by kernel_rfl
end Go.Proofs.YtpofhijgccocpaaDoor
end
section
namespace Go.TP
open Go.AS
def isSgn (c : UInt8) : Bool := c == 43 || c == 45 || c == 38 || c == 33 || c == 40 || c == 41 || c == 44
def blW (k : Nat) : List UInt8 := ([[], [32], [9], [32, 10, 32]] : List (List UInt8)).getD k []
def blAt (ys : List Int) (i : Nat) : List UInt8 := if i < ys.length then blW ((ys.getD i 0) % 4).toNat else []
def tAt (ys : List Int) (i : Nat) (c : UInt8) : List UInt8 := if isSgn c then blAt ys i ++ c :: blAt ys i else [c]
def uAt (c : UInt8) : List UInt8 := if c = 43 then [32, 111, 114, 32] else if c = 45 then [32, 109, 105, 110, 117, 115, 32] else if c = 38 then [32, 97, 110, 100, 32] else if c = 33 then [32, 110, 111, 116, 32] else [c]
def tGo (ys : List Int) : List UInt8 → Nat → List UInt8
 | [], _ => []
 | c :: r, i => tAt ys i c ++ tGo ys r (i + 1)
def uGo : List UInt8 → List UInt8
 | [] => []
 | c :: r => uAt c ++ uGo r
theorem tGo_app (ys : List Int) : ∀ (a b : List UInt8) (i : Nat), tGo ys (a ++ b) i = tGo ys a i ++ tGo ys b (i + a.length)
 | [], b, i => rfl
 | c :: a, b, i => by
  rw [List.cons_append, tGo, tGo, tGo_app ys a b (i + 1), List.append_assoc, List.length_cons]
  congr 3; omega
theorem uGo_app : ∀ a b : List UInt8, uGo (a ++ b) = uGo a ++ uGo b
 | [], b => rfl
 | c :: a, b => by rw [List.cons_append, uGo, uGo, uGo_app a b, List.append_assoc]
theorem bytes_app (a b : ByteArray) : (a ++ b).data.toList = a.data.toList ++ b.data.toList := by
 rw [ByteArray.data_append, Array.toList_append]
theorem blW_blank (k : Nat) : ∀ b ∈ blW k, blankN b.toNat = true := by
 unfold blW
 match k with
 | 0 => intro b hb; cases hb
 | 1 => decide
 | 2 => decide
 | 3 => decide
 | k + 4 => intro b hb; cases hb
theorem blAt_blank (ys : List Int) (i : Nat) : ∀ b ∈ blAt ys i, blankN b.toNat = true := by
 unfold blAt
 split
 · exact blW_blank _
 · intro b hb; cases hb
theorem cat_bl : ∀ bs : List UInt8, (catP (bs.map .bl)).data.toList = bs
 | [] => rfl
 | b :: bs => by rw [List.map_cons, catP, bytes_app, cat_bl bs]; rfl
theorem let_sgn {c : UInt8} (h : letterN c.toNat = true) : isSgn c = false ∧ c ≠ 43 ∧ c ≠ 45 ∧ c ≠ 38 ∧ c ≠ 33 := by
 have no : ∀ d : UInt8, letterN d.toNat = false → c ≠ d := fun d hd e => by subst e; rw [hd] at h; cases h
 have n1 := no 43 (by decide)
 have n2 := no 45 (by decide)
 have n3 := no 38 (by decide)
 have n4 := no 33 (by decide)
 have n5 := no 40 (by decide)
 have n6 := no 41 (by decide)
 have n7 := no 44 (by decide)
 refine ⟨?_, n1, n2, n3, n4⟩
 unfold isSgn
 simp only [beq_eq_false_iff_ne.2 n1, beq_eq_false_iff_ne.2 n2, beq_eq_false_iff_ne.2 n3, beq_eq_false_iff_ne.2 n4, beq_eq_false_iff_ne.2 n5, beq_eq_false_iff_ne.2 n6, beq_eq_false_iff_ne.2 n7, Bool.or_self]
theorem letters_mem {t : ByteArray} (h : Letters t) : ∀ c ∈ t.data.toList, letterN c.toNat = true := by
 intro c hc
 obtain ⟨i, hi, e⟩ := List.mem_iff_getElem.1 hc
 have hi' : i < t.size := by rw [Array.length_toList] at hi; exact hi
 have := h.2 i hi'
 unfold byteAt at this
 rw [Array.getD_eq_getD_getElem?, Array.getElem?_eq_getElem hi'] at this
 rw [← e]
 exact this
theorem tGo_word (ys : List Int) : ∀ (l : List UInt8) (i : Nat), (∀ c ∈ l, letterN c.toNat = true) → tGo ys l i = l
 | [], _, _ => rfl
 | c :: l, i, h => by
  rw [tGo, tGo_word ys l (i + 1) fun d hd => h d (List.mem_cons_of_mem _ hd)]
  unfold tAt
  rw [(let_sgn (h c (List.mem_cons_self ..))).1]; rfl
theorem uGo_word : ∀ (l : List UInt8), (∀ c ∈ l, letterN c.toNat = true) → uGo l = l
 | [], _ => rfl
 | c :: l, h => by
  obtain ⟨_, h1, h2, h3, h4⟩ := let_sgn (h c (List.mem_cons_self ..))
  rw [uGo, uGo_word l fun d hd => h d (List.mem_cons_of_mem _ hd)]
  unfold uAt
  rw [if_neg h1, if_neg h2, if_neg h3, if_neg h4]; rfl
theorem t_ex (ys : List Int) (p : Ky) (h : (p.1 = 1 ∧ WordB p.2) ∨ (2 ≤ p.1 ∧ p.1 ≤ 10 ∧ p.2 = ByteArray.empty)) (i : Nat) : ∃ ps, Ex p ps ∧ (catP ps).data.toList = tGo ys (spell p).data.toList i := by
 obtain ⟨k, t⟩ := p
 rcases h with ⟨h1, h2⟩ | ⟨h1, h2, h3⟩
 · have h1 : k = 1 := h1
   subst h1
   refine ⟨_, .word t, ?_⟩
   rw [show spell (1, t) = t from rfl, tGo_word ys _ _ (letters_mem h2.1)]
   show (t ++ ByteArray.empty).data.toList = _
   rw [ByteArray.append_empty]
 · have h1 : 2 ≤ k := h1
   have h2 : k ≤ 10 := h2
   have h3 : t = ByteArray.empty := h3
   subst h3
   have plain : k = 5 ∨ k = 6 → ∃ ps, Ex (k, ByteArray.empty) ps ∧ (catP ps).data.toList = tGo ys (spell (k, ByteArray.empty)).data.toList i := fun hk => by
     refine ⟨_, .sign k ⟨h1, h2⟩ [] [] (fun _ h => by cases h) (fun _ h => by cases h), ?_⟩
     rcases hk with rfl | rfl <;> rfl
   have one : ∀ c : UInt8, isSgn c = true → (signB k).data.toList = [c] → k ≠ 1 → ∃ ps, Ex (k, ByteArray.empty) ps ∧ (catP ps).data.toList = tGo ys (spell (k, ByteArray.empty)).data.toList i := fun c hc hs hk => by
     refine ⟨_, .sign k ⟨h1, h2⟩ (blAt ys i) (blAt ys i) (blAt_blank ys i) (blAt_blank ys i), ?_⟩
     have e : spell (k, ByteArray.empty) = signB k := if_neg hk
     rw [catP_app, bytes_app, cat_bl, catP, bytes_app, cat_bl, e, hs, tGo, tGo, List.append_nil]
     unfold tAt
     rw [if_pos hc]; rfl
   have hc : k = 2 ∨ k = 3 ∨ k = 4 ∨ (k = 5 ∨ k = 6) ∨ k = 7 ∨ k = 8 ∨ k = 9 ∨ k = 10 := by omega
   rcases hc with rfl | rfl | rfl | hk | rfl | rfl | rfl | rfl
   · exact one 40 rfl rfl (by decide)
   · exact one 41 rfl rfl (by decide)
   · exact one 44 rfl rfl (by decide)
   · exact plain hk
   · exact one 43 rfl rfl (by decide)
   · exact one 45 rfl rfl (by decide)
   · exact one 38 rfl rfl (by decide)
   · exact one 33 rfl rfl (by decide)
theorem u_ex (p : Ky) (h : (p.1 = 1 ∧ WordB p.2) ∨ (2 ≤ p.1 ∧ p.1 ≤ 10 ∧ p.2 = ByteArray.empty)) : ∃ ps, Ex p ps ∧ (catP ps).data.toList = uGo (spell p).data.toList := by
 obtain ⟨k, t⟩ := p
 rcases h with ⟨h1, h2⟩ | ⟨h1, h2, h3⟩
 · have h1 : k = 1 := h1
   subst h1
   refine ⟨_, .word t, ?_⟩
   rw [show spell (1, t) = t from rfl, uGo_word _ (letters_mem h2.1)]
   show (t ++ ByteArray.empty).data.toList = _
   rw [ByteArray.append_empty]
 · have h1 : 2 ≤ k := h1
   have h2 : k ≤ 10 := h2
   have h3 : t = ByteArray.empty := h3
   subst h3
   have hc : (k = 2 ∨ k = 3 ∨ k = 4 ∨ k = 5 ∨ k = 6) ∨ k = 7 ∨ k = 8 ∨ k = 9 ∨ k = 10 := by omega
   rcases hc with hk | rfl | rfl | rfl | rfl
   · refine ⟨_, .sign k ⟨h1, h2⟩ [] [] (fun _ h => by cases h) (fun _ h => by cases h), ?_⟩
     rcases hk with rfl | rfl | rfl | rfl | rfl <;> rfl
   · exact ⟨_, .said 7 bOr (by decide) (by unfold Letters; decide) rfl, rfl⟩
   · exact ⟨_, .said 8 bMinus (by decide) (by unfold Letters; decide) rfl, rfl⟩
   · exact ⟨_, .said 9 bAnd (by decide) (by unfold Letters; decide) rfl, rfl⟩
   · exact ⟨_, .said 10 bNot (by decide) (by unfold Letters; decide) rfl, rfl⟩
theorem wf_head {p : Ky} {l : List Ky} (h : Wf (p :: l)) : (p.1 = 1 ∧ WordB p.2) ∨ (2 ≤ p.1 ∧ p.1 ≤ 10 ∧ p.2 = ByteArray.empty) := by
 rcases h.1 with ⟨h1, h2, _⟩ | h1
 · exact .inl ⟨h1, h2⟩
 · exact .inr h1
theorem t_exs (ys : List Int) : ∀ (l : List Ky), Wf l → ∀ i : Nat, ∃ ps, Exs l ps ∧ (catP ps).data.toList = tGo ys (catK l).data.toList i
 | [], _, i => ⟨[], .nil, rfl⟩
 | p :: l, h, i => by
  obtain ⟨ps, h1, h2⟩ := t_ex ys p (wf_head h) i
  obtain ⟨qs, h3, h4⟩ := t_exs ys l h.2 (i + (spell p).data.toList.length)
  exact ⟨ps ++ qs, .cons h1 h3, by rw [catP_app, bytes_app, h2, h4, catK, bytes_app, tGo_app]⟩
theorem u_exs : ∀ (l : List Ky), Wf l → ∃ ps, Exs l ps ∧ (catP ps).data.toList = uGo (catK l).data.toList
 | [], _ => ⟨[], .nil, rfl⟩
 | p :: l, h => by
  obtain ⟨ps, h1, h2⟩ := u_ex p (wf_head h)
  obtain ⟨qs, h3, h4⟩ := u_exs l h.2
  exact ⟨ps ++ qs, .cons h1 h3, by rw [catP_app, bytes_app, h2, h4, catK, bytes_app, uGo_app]⟩
end Go.TP
end
