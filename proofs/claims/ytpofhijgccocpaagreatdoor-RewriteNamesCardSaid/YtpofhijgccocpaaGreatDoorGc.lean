/- Parts of the proof of RewriteNames. -/
import Derived.Test.YtpofhijgccocpaaGreatDoorGb
import Derived.Test.YtpofhijgccocpaaGreatDoorGa
import Derived.Test.YtpofhijgccocpaaGreatDoorASvar
section
namespace Go.Proofs.YtpofhijgccocpaaGreatDoor
open Go.AS Go.TP
noncomputable section
abbrev BCh (xs : List AV) (σ : Hp) (r : Ex × Back) : Prop := BlkOk Tryz.prog gl0 (fn fPChain).ntmps (loopAt (code fPChain) 0) [0, 1, 2, 6, 8, 9] (fun _ => [6, 8, 9]) xs σ fun _ q => q = r
attribute [local irreducible] runL in
set_option maxRecDepth 100000 in
theorem chRound {X : WX} (hX : X.Sound) (hp : X.px = X0) {os : Orc} {c : Ch} {P : Prop} {ts us : List AV} {d : Int} {n e n' e' : AV} {r' r : Ex × Back} (ih : P → BCh (cArgs c e') (cHeap c us d n') r') (h : rCh X os c P ts d n e us n' e' r' r) : BCh (cArgs c e) (cHeap c ts d n) r := by
 have hP : X.px.P = Tryz.prog := by rw [hp]; rfl
 have hg : X.px.gl = gl0 := by rw [hp]; rfl
 have := lp_round1W (X := X.ask (fPChain :: askP)) (hX.ask _) (f := fPChain) (fn := fn fPChain) (code := code fPChain) (by show X.px.P.funcs[fPChain]? = _; rw [hP]; exact fnOk fPChain (by kernel_rfl)) (show (fn fPChain).body = some (code fPChain) by kernel_rfl)
  (i := 0) (ins := [0, 1, 2, 6, 8, 9]) (gh := []) (outs := fun _ => [6, 8, 9]) (show ([0, 1, 2, 6, 8, 9] : List Nat).Nodup by decide) (P := P) (xs' := cArgs c e') (σ' := cHeap c us d n') (r' := r') (by
   show P → BlkOk X.px.P X.px.gl _ _ _ _ _ _ _
   rw [hP, hg]; exact ih) h
 show BlkOk Tryz.prog gl0 _ _ _ _ _ _ _
 rw [← hP, ← hg]; exact this
theorem XC_ok {c : Ch} {ts ts' : List AV} {d : Int} {n e : AV} (h : FOk Tryz.prog gl0 c.f [pArg] (pHeap ts d) (pOut ts' d n e)) : (XC c ts ts' d n e).Sound := XB_ok.add (conOk (s := spP ts ts' d n e) fun _ _ => h)
theorem chainS_err {part : List Tk → R} {km : Int → Int} {m : Nat} {r : R} (h : r.e ≠ none) : chainS part km m r = r := by
 cases m with
 | zero => rw [chainS]
 | succ m => rw [chainS, if_neg (fun q => h q.1)]
theorem chainS_stop {part : List Tk → R} {km : Int → Int} {m : Nat} {r : R} (h : km (headT r.ts).kind = 0) : chainS part km m r = r := by
 cases m with
 | zero => rw [chainS]
 | succ m => rw [chainS, if_neg (fun q => q.2 h)]
theorem lookE (k : Int) : lookI k [Value.int IntKind.i64 (7 : Int), Value.int IntKind.i64 (8 : Int)] [AV.lit (Value.int IntKind.i64 (2 : Int)), AV.lit (Value.int IntKind.i64 (3 : Int))] = kmE k := by
 unfold kmE
 simp only [lookI, numA]
theorem lookT (k : Int) : lookI k [Value.int IntKind.i64 (9 : Int)] [AV.lit (Value.int IntKind.i64 (4 : Int))] = kmT k := by
 unfold kmT
 simp only [lookI, numA]
theorem kmE_ne {k : Int} (h : kmE k ≠ 0) : k = 7 ∨ k = 8 := by
 unfold kmE at h
 split at h
 · exact .inl (by assumption)
 · split at h
   · exact .inr (by assumption)
   · exact absurd rfl h
theorem kmT_ne {k : Int} (h : kmT k ≠ 0) : k = 9 := by
 unfold kmT at h
 split at h
 · assumption
 · exact absurd rfl h
attribute [local irreducible] runL runF in
set_option maxRecDepth 100000 in
theorem chainE {f : Nat} (ih : PFOk f) {d : Int} (h0 : 0 ≤ d) (h1 : d ≤ 24) : ∀ (m : Nat) (r : R), okT r.ts → r.ts.length ≤ m → 5 * r.ts.length ≤ f →
  BCh (cArgs chE (encE r.e)) (cHeap chE (r.ts.map encT) d (encP r.n)) (cOut chE ((chainS (PF f .term d) kmE m r).ts.map encT) d (encP (chainS (PF f .term d) kmE m r).n) (encE (chainS (PF f .term d) kmE m r).e)) := by
 intro m
 induction m with
 | zero =>
  intro r hk hl _
  exact absurd (List.eq_nil_of_length_eq_zero (by omega)) (okT_ne hk)
 | succ m ihm =>
  intro r hk hl hf
  obtain ⟨n, e, us⟩ := r
  cases e with
  | some e =>
   obtain ⟨ek, ea⟩ := e
   rw [chainS_err (fun h => by cases h)]
   exact chRound (P := False) XB_ok rfl (fun h => h.elim) (cEe_ok (us.map encT) d n ek ea h0 h1)
  | none =>
   match us, hk, hl, hf with
   | ⟨k, a, x⟩ :: r', hk, hl, hf =>
    have hl : r'.length + 1 ≤ m + 1 := hl
    have hf : 5 * (r'.length + 1) ≤ f := hf
    by_cases hkm : kmE k = 0
    · rw [chainS_stop (r := ⟨n, none, ⟨k, a, x⟩ :: r'⟩) hkm]
      exact chRound (P := False) XB_ok rfl (fun h => h.elim) (cXe_ok k a x (r'.map encT) d n (by rw [lookE, hkm]; rfl) h0 h1)
    · have hk7 := kmE_ne hkm
      have hne : k ≠ 11 := by rcases hk7 with rfl | rfl <;> decide
      have hr := okT_cons hk hne
      have e1 : chainS (PF f .term d) kmE (m + 1) ⟨n, none, ⟨k, a, x⟩ :: r'⟩ = chainS (PF f .term d) kmE m ⟨.mk (kmE k) a 0 ByteArray.empty [n, (PF f .term d r').n], (PF f .term d r').e, (PF f .term d r').ts⟩ := by
        rw [chainS, if_pos ⟨rfl, hkm⟩]
        show chainS _ _ m ⟨.mk (kmE k) a 0 ByteArray.empty [n, (PF f .term d (takeT (⟨k, a, x⟩ :: r'))).n], (PF f .term d (takeT (⟨k, a, x⟩ :: r'))).e, (PF f .term d (takeT (⟨k, a, x⟩ :: r'))).ts⟩ = _
        rw [takeT_cons hne]
      rw [e1]
      have hq := ih .term d r' h0 h1 hr (by show 5 * r'.length + 4 ≤ f; omega)
      have hi := PF_inv f .term d r' hr
      generalize PF f .term d r' = q at hq hi ⊢
      obtain ⟨qn, qe, qs⟩ := q
      have hq : FOk Tryz.prog gl0 (chE).f [pArg] (pHeap (r'.map encT) d) (pOut (qs.map encT) d (encP qn) (encE qe)) := hq
      have hi2 : qs.length ≤ r'.length := hi.2
      have hB := ihm ⟨.mk (kmE k) a 0 ByteArray.empty [n, qn], qe, qs⟩ hi.1 (show qs.length ≤ m by omega) (show 5 * qs.length ≤ f by omega)
      dsimp only at hB ⊢
      rw [node2] at hB
      have herr : qe ≠ none → (chainS (PF f .term d) kmE m ⟨.mk (kmE k) a 0 ByteArray.empty [n, qn], qe, qs⟩).e = qe := fun h => by rw [chainS_err h]
      generalize chainS (PF f .term d) kmE m ⟨.mk (kmE k) a 0 ByteArray.empty [n, qn], qe, qs⟩ = z at hB herr ⊢
      obtain ⟨zn, ze, zs⟩ := z
      have herr : qe ≠ none → ze = qe := herr
      have hB : BCh (cArgs chE (encE qe)) (cHeap chE (qs.map encT) d (nodeV (kmE k) a 0 ByteArray.empty [encP n, encP qn])) (cOut chE (zs.map encT) d (encP zn) (encE ze)) := hB
      rcases hk7 with rfl | rfl
      · cases qe with
        | some e =>
          obtain ⟨ek, ea⟩ := e
          obtain rfl := herr (fun h => by cases h)
          exact chRound (P := True) (XC_ok hq) rfl (fun _ => hB) (cR7E_ok a x (r'.map encT) d n qn (qs.map encT) (zs.map encT) zn ek ea ek ea h0 h1)
        | none =>
          cases ze with
          | some e =>
            obtain ⟨ek, ea⟩ := e
            exact chRound (P := True) (XC_ok hq) rfl (fun _ => hB) (cR7F_ok a x (r'.map encT) d n qn (qs.map encT) (zs.map encT) zn ek ea h0 h1)
          | none => exact chRound (P := True) (XC_ok hq) rfl (fun _ => hB) (cR7N_ok a x (r'.map encT) d n qn (qs.map encT) (zs.map encT) zn h0 h1)
      · cases qe with
        | some e =>
          obtain ⟨ek, ea⟩ := e
          obtain rfl := herr (fun h => by cases h)
          exact chRound (P := True) (XC_ok hq) rfl (fun _ => hB) (cR8E_ok a x (r'.map encT) d n qn (qs.map encT) (zs.map encT) zn ek ea ek ea h0 h1)
        | none =>
          cases ze with
          | some e =>
            obtain ⟨ek, ea⟩ := e
            exact chRound (P := True) (XC_ok hq) rfl (fun _ => hB) (cR8F_ok a x (r'.map encT) d n qn (qs.map encT) (zs.map encT) zn ek ea h0 h1)
          | none => exact chRound (P := True) (XC_ok hq) rfl (fun _ => hB) (cR8N_ok a x (r'.map encT) d n qn (qs.map encT) (zs.map encT) zn h0 h1)
attribute [local irreducible] runL runF in
set_option maxRecDepth 100000 in
theorem chainT {f : Nat} (ih : PFOk f) {d : Int} (h0 : 0 ≤ d) (h1 : d ≤ 24) : ∀ (m : Nat) (r : R), okT r.ts → r.ts.length ≤ m → 5 * r.ts.length ≤ f →
  BCh (cArgs chT (encE r.e)) (cHeap chT (r.ts.map encT) d (encP r.n)) (cOut chT ((chainS (PF f .part d) kmT m r).ts.map encT) d (encP (chainS (PF f .part d) kmT m r).n) (encE (chainS (PF f .part d) kmT m r).e)) := by
 intro m
 induction m with
 | zero =>
  intro r hk hl _
  exact absurd (List.eq_nil_of_length_eq_zero (by omega)) (okT_ne hk)
 | succ m ihm =>
  intro r hk hl hf
  obtain ⟨n, e, us⟩ := r
  cases e with
  | some e =>
   obtain ⟨ek, ea⟩ := e
   rw [chainS_err (fun h => by cases h)]
   exact chRound (P := False) XB_ok rfl (fun h => h.elim) (cEt_ok (us.map encT) d n ek ea h0 h1)
  | none =>
   match us, hk, hl, hf with
   | ⟨k, a, x⟩ :: r', hk, hl, hf =>
    have hl : r'.length + 1 ≤ m + 1 := hl
    have hf : 5 * (r'.length + 1) ≤ f := hf
    by_cases hkm : kmT k = 0
    · rw [chainS_stop (r := ⟨n, none, ⟨k, a, x⟩ :: r'⟩) hkm]
      exact chRound (P := False) XB_ok rfl (fun h => h.elim) (cXt_ok k a x (r'.map encT) d n (by rw [lookT, hkm]; rfl) h0 h1)
    · have hk7 := kmT_ne hkm
      have hne : k ≠ 11 := by rw [hk7]; decide
      have hr := okT_cons hk hne
      have e1 : chainS (PF f .part d) kmT (m + 1) ⟨n, none, ⟨k, a, x⟩ :: r'⟩ = chainS (PF f .part d) kmT m ⟨.mk (kmT k) a 0 ByteArray.empty [n, (PF f .part d r').n], (PF f .part d r').e, (PF f .part d r').ts⟩ := by
        rw [chainS, if_pos ⟨rfl, hkm⟩]
        show chainS _ _ m ⟨.mk (kmT k) a 0 ByteArray.empty [n, (PF f .part d (takeT (⟨k, a, x⟩ :: r'))).n], (PF f .part d (takeT (⟨k, a, x⟩ :: r'))).e, (PF f .part d (takeT (⟨k, a, x⟩ :: r'))).ts⟩ = _
        rw [takeT_cons hne]
      rw [e1]
      have hq := ih .part d r' h0 h1 hr (by show 5 * r'.length + 3 ≤ f; omega)
      have hi := PF_inv f .part d r' hr
      generalize PF f .part d r' = q at hq hi ⊢
      obtain ⟨qn, qe, qs⟩ := q
      have hq : FOk Tryz.prog gl0 (chT).f [pArg] (pHeap (r'.map encT) d) (pOut (qs.map encT) d (encP qn) (encE qe)) := hq
      have hi2 : qs.length ≤ r'.length := hi.2
      have hB := ihm ⟨.mk (kmT k) a 0 ByteArray.empty [n, qn], qe, qs⟩ hi.1 (show qs.length ≤ m by omega) (show 5 * qs.length ≤ f by omega)
      dsimp only at hB ⊢
      rw [node2] at hB
      have herr : qe ≠ none → (chainS (PF f .part d) kmT m ⟨.mk (kmT k) a 0 ByteArray.empty [n, qn], qe, qs⟩).e = qe := fun h => by rw [chainS_err h]
      generalize chainS (PF f .part d) kmT m ⟨.mk (kmT k) a 0 ByteArray.empty [n, qn], qe, qs⟩ = z at hB herr ⊢
      obtain ⟨zn, ze, zs⟩ := z
      have herr : qe ≠ none → ze = qe := herr
      have hB : BCh (cArgs chT (encE qe)) (cHeap chT (qs.map encT) d (nodeV (kmT k) a 0 ByteArray.empty [encP n, encP qn])) (cOut chT (zs.map encT) d (encP zn) (encE ze)) := hB
      subst hk7
      cases qe with
      | some e =>
        obtain ⟨ek, ea⟩ := e
        obtain rfl := herr (fun h => by cases h)
        exact chRound (P := True) (XC_ok hq) rfl (fun _ => hB) (cR9E_ok a x (r'.map encT) d n qn (qs.map encT) (zs.map encT) zn ek ea ek ea h0 h1)
      | none =>
        cases ze with
        | some e =>
          obtain ⟨ek, ea⟩ := e
          exact chRound (P := True) (XC_ok hq) rfl (fun _ => hB) (cR9F_ok a x (r'.map encT) d n qn (qs.map encT) (zs.map encT) zn ek ea h0 h1)
        | none => exact chRound (P := True) (XC_ok hq) rfl (fun _ => hB) (cR9N_ok a x (r'.map encT) d n qn (qs.map encT) (zs.map encT) zn h0 h1)
set_option maxRecDepth 100000 in
theorem addexpr {ts us : List AV} {d : Int} {n e : AV} {r : Ex × Back} (h : FOk Tryz.prog gl0 (chE).f [pArg] (pHeap ts d) (pOut us d n e)) (hB : BCh (cArgs chE e) (cHeap chE us d n) r) : ((XC chE ts us d n e).addLp fPChain 0 (lpCh chE True us d n e r)).Sound :=
 (XC_ok h).addLp (fnOk fPChain (by kernel_rfl)) (show (fn fPChain).body = some (code fPChain) by kernel_rfl) (by kernel_rfl)
  (Spl.okW (L := lpCh chE True us d n e r) (l := [⟨Unit, fun _ => True, fun _ => cArgs chE e, fun _ => cHeap chE us d n, fun _ => r⟩]) rfl (show ([0, 1, 2, 6, 8, 9] : List Nat).Nodup by decide) fun s hs i _ => by obtain rfl := List.mem_singleton.1 hs; exact hB)
attribute [local irreducible] runL runF in
set_option maxRecDepth 100000 in
theorem expr_step {f : Nat} (ih : PFOk f) {d : Int} {ts : List Tk} (h0 : 0 ≤ d) (h1 : d ≤ 24) (hk : okT ts) (hf : 5 * ts.length + 5 ≤ f + 1) : PR fPExpr d ts (PF (f + 1) .expr d ts) := by
 rw [PF]
 have hq := ih .term d ts h0 h1 hk (by show 5 * ts.length + 4 ≤ f; omega)
 have hi := PF_inv f .term d ts hk
 generalize PF f .term d ts = q at hq hi ⊢
 obtain ⟨qn, qe, qs⟩ := q
 have hq : FOk Tryz.prog gl0 (chE).f [pArg] (pHeap (ts.map encT) d) (pOut (qs.map encT) d (encP qn) (encE qe)) := hq
 have hi2 : qs.length ≤ ts.length := hi.2
 have hB := chainE ih h0 h1 f ⟨qn, qe, qs⟩ hi.1 (show qs.length ≤ f by omega) (show 5 * qs.length ≤ f by omega)
 have herr : qe ≠ none → (chainS (PF f .term d) kmE f ⟨qn, qe, qs⟩).e = qe := fun h => by rw [chainS_err h]
 generalize chainS (PF f .term d) kmE f ⟨qn, qe, qs⟩ = z at hB herr ⊢
 obtain ⟨zn, ze, zs⟩ := z
 have herr : qe ≠ none → ze = qe := herr
 have hB : BCh (cArgs chE (encE qe)) (cHeap chE (qs.map encT) d (encP qn)) (cOut chE (zs.map encT) d (encP zn) (encE ze)) := hB
 cases qe with
 | some e =>
  obtain ⟨ek, ea⟩ := e
  obtain rfl := herr (fun h => by cases h)
  exact exprOk (addexpr hq hB) rfl (gExE_ok (ts.map encT) (qs.map encT) d qn (zs.map encT) zn ek ea ek ea h0 h1)
 | none =>
  cases ze with
  | some e =>
   obtain ⟨ek, ea⟩ := e
   exact exprOk (addexpr hq hB) rfl (gExF_ok (ts.map encT) (qs.map encT) d qn (zs.map encT) zn ek ea h0 h1)
  | none => exact exprOk (addexpr hq hB) rfl (gExN_ok (ts.map encT) (qs.map encT) d qn (zs.map encT) zn h0 h1)
set_option maxRecDepth 100000 in
theorem addterm {ts us : List AV} {d : Int} {n e : AV} {r : Ex × Back} (h : FOk Tryz.prog gl0 (chT).f [pArg] (pHeap ts d) (pOut us d n e)) (hB : BCh (cArgs chT e) (cHeap chT us d n) r) : ((XC chT ts us d n e).addLp fPChain 0 (lpCh chT True us d n e r)).Sound :=
 (XC_ok h).addLp (fnOk fPChain (by kernel_rfl)) (show (fn fPChain).body = some (code fPChain) by kernel_rfl) (by kernel_rfl)
  (Spl.okW (L := lpCh chT True us d n e r) (l := [⟨Unit, fun _ => True, fun _ => cArgs chT e, fun _ => cHeap chT us d n, fun _ => r⟩]) rfl (show ([0, 1, 2, 6, 8, 9] : List Nat).Nodup by decide) fun s hs i _ => by obtain rfl := List.mem_singleton.1 hs; exact hB)
attribute [local irreducible] runL runF in
set_option maxRecDepth 100000 in
theorem term_step {f : Nat} (ih : PFOk f) {d : Int} {ts : List Tk} (h0 : 0 ≤ d) (h1 : d ≤ 24) (hk : okT ts) (hf : 5 * ts.length + 4 ≤ f + 1) : PR fPTerm d ts (PF (f + 1) .term d ts) := by
 rw [PF]
 have hq := ih .part d ts h0 h1 hk (by show 5 * ts.length + 3 ≤ f; omega)
 have hi := PF_inv f .part d ts hk
 generalize PF f .part d ts = q at hq hi ⊢
 obtain ⟨qn, qe, qs⟩ := q
 have hq : FOk Tryz.prog gl0 (chT).f [pArg] (pHeap (ts.map encT) d) (pOut (qs.map encT) d (encP qn) (encE qe)) := hq
 have hi2 : qs.length ≤ ts.length := hi.2
 have hB := chainT ih h0 h1 f ⟨qn, qe, qs⟩ hi.1 (show qs.length ≤ f by omega) (show 5 * qs.length ≤ f by omega)
 have herr : qe ≠ none → (chainS (PF f .part d) kmT f ⟨qn, qe, qs⟩).e = qe := fun h => by rw [chainS_err h]
 generalize chainS (PF f .part d) kmT f ⟨qn, qe, qs⟩ = z at hB herr ⊢
 obtain ⟨zn, ze, zs⟩ := z
 have herr : qe ≠ none → ze = qe := herr
 have hB : BCh (cArgs chT (encE qe)) (cHeap chT (qs.map encT) d (encP qn)) (cOut chT (zs.map encT) d (encP zn) (encE ze)) := hB
 cases qe with
 | some e =>
  obtain ⟨ek, ea⟩ := e
  obtain rfl := herr (fun h => by cases h)
  exact termOk (addterm hq hB) rfl (gTeE_ok (ts.map encT) (qs.map encT) d qn (zs.map encT) zn ek ea ek ea h0 h1)
 | none =>
  cases ze with
  | some e =>
   obtain ⟨ek, ea⟩ := e
   exact termOk (addterm hq hB) rfl (gTeF_ok (ts.map encT) (qs.map encT) d qn (zs.map encT) zn ek ea h0 h1)
  | none => exact termOk (addterm hq hB) rfl (gTeN_ok (ts.map encT) (qs.map encT) d qn (zs.map encT) zn h0 h1)
theorem PF_ok : ∀ f, PFOk f
 | 0 => fun lv d ts _ _ hk hf => by
  have : 0 < ts.length := List.length_pos_iff.2 (okT_ne hk)
  omega
 | f + 1 => fun lv d ts h0 h1 hk hf => by
  have ih := PF_ok f
  cases lv with
  | expr => exact expr_step ih h0 h1 hk hf
  | term => exact term_step ih h0 h1 hk hf
  | part => exact part_step ih h0 h1 hk hf
  | ranged => exact ranged_step ih h0 h1 hk hf
  | atom => exact atom_step ih h0 h1 hk hf
end
end Go.Proofs.YtpofhijgccocpaaGreatDoor
end
section
namespace Go.Proofs.YtpofhijgccocpaaGreatDoor
open Go.AS Go.TP
noncomputable section
inductive ParR where
 | long
 | bad (k a : Int)
 | ok (n : Nd)
def parOf (r : R) : ParR := match r.e with
 | some (k, a) => .bad k a
 | none => if (headT r.ts).kind = 11 then .ok r.n else .bad 15 (headT r.ts).at_
def parL : LexR → ParR
 | .long => .long
 | .bad i => .bad 15 i
 | .ok ts => parOf (PF (5 * ts.length + 5) .expr 0 ts)
def parseS (s : ByteArray) : ParR := parL (lexS s)
def encPar : ParR → AV
 | .long => .tup [encP Nd.zero, .iface tErrno (i0 5)]
 | .bad k a => .tup [encP Nd.zero, encErr k a]
 | .ok n => .tup [encP n, nilE]
def spLex (s : ByteArray) (x : AV) : Sp := .pure Unit (fun _ => True) (fun _ => [s0 s]) (fun _ => x)
def gPar (X : WX) (os : Orc) (s : ByteArray) (x : AV) : Prop := runF (X.ask [fParse, fPExpect, fPNext, fPTake]) 12 fParse (fn fParse) (code fParse) os 0 [] [s0 s] .nil ⟨x, .nil, []⟩
def XL (s : ByteArray) (x : AV) : WX := XT.add fLex (Sp.con [spLex s x])
def XLP (s : ByteArray) (ts ts' : List AV) (n e : AV) : WX := (XL s (.tup [.lst false 3 ts, .lit .nilIface])).add fPExpr (Sp.con [spP ts ts' 0 n e])
def gParL (os : Orc) (s : ByteArray) : Prop := gPar (XL s (.tup [.lst false 3 [], .iface tErrno (i0 5)])) os s (.tup [encP Nd.zero, .iface tErrno (i0 5)])
def gParB (os : Orc) (s : ByteArray) (i : Int) : Prop := gPar (XL s (.tup [.lst false 3 [], encErr 15 i])) os s (.tup [encP Nd.zero, encErr 15 i])
def gParE (os : Orc) (s : ByteArray) (ts ts' : List AV) (n : Nd) (k a : Int) : Prop := gPar (XLP s ts ts' (encP n) (encErr k a)) os s (.tup [encP Nd.zero, encErr k a])
def gParO (os : Orc) (s : ByteArray) (ts : List AV) (a : Int) (x : ByteArray) (r : List AV) (n : Nd) : Prop := gPar (XLP s ts (tokV 11 a x :: r) (encP n) nilE) os s (.tup [encP n, nilE])
def gParX (os : Orc) (s : ByteArray) (ts : List AV) (k a : Int) (x : ByteArray) (r : List AV) (n : Nd) : Prop := gPar (XLP s ts (tokV k a x :: r) (encP n) nilE) os s (.tup [encP Nd.zero, encErr 15 a])
end
end Go.Proofs.YtpofhijgccocpaaGreatDoor
end
section
namespace Go.Proofs.YtpofhijgccocpaaGreatDoor
open Go Go.AS Go.TP
theorem gParL_vc (s : ByteArray) : gParL (Orc.t Orc.z) s = (let z1 := (Nd.mk (0 : Int) (0 : Int) (0 : Int) ByteArray.empty []); U1 [s0 s] [] (Yt (Wk (AV.tup [AV.agg [i0 (0 : Int), i0 (0 : Int), i0 (0 : Int), s0 { data := { toList := [] } }, AV.lit (Value.slice none 0 0)], AV.iface 26 (i0 (5 : Int))]) (AV.tup [AV.agg [i0 (0 : Int), i0 (0 : Int), i0 (0 : Int), s0 (Nd.text z1), AV.lst false 5 (encL (Nd.kids z1))], AV.iface 26 (i0 (5 : Int))]) ∧ SameH (hpL []) (hpL [])))) := by kernel_rfl
theorem gParB_vc (s : ByteArray) (i : Int) : gParB (Orc.t Orc.z) s i = (let z1 := AV.iface 118 (AV.ref (AV.agg [i0 i, AV.iface 26 (i0 (15 : Int))])); let z2 := (Nd.mk (0 : Int) (0 : Int) (0 : Int) ByteArray.empty []); U1 [s0 s] [] (Yt (Wk (AV.tup [AV.agg [i0 (0 : Int), i0 (0 : Int), i0 (0 : Int), s0 { data := { toList := [] } }, AV.lit (Value.slice none 0 0)], z1]) (AV.tup [AV.agg [i0 (0 : Int), i0 (0 : Int), i0 (0 : Int), s0 (Nd.text z2), AV.lst false 5 (encL (Nd.kids z2))], z1]) ∧ SameH (hpL []) (hpL [])))) := by kernel_rfl
theorem gParE_vc (s : ByteArray) (ts ts' : List AV) (n : Nd) (k a : Int) : gParE (Orc.f (Orc.f (Orc.t Orc.z))) s ts ts' n k a = (let z1 := [eR 1048577 [0, 0] 2 [AV.agg [AV.lst false 3 ts, i0 (0 : Int)]]]; let z2 := AV.iface 118 (AV.ref (AV.agg [i0 a, AV.iface 26 (i0 k)])); let z3 := (Nd.mk (0 : Int) (0 : Int) (0 : Int) ByteArray.empty []); U1 [s0 s] [] (Nf (U1 [AV.ptr 1048577 [0, 0] 0 0] z1 (Nf (Yt (Wk (AV.tup [AV.agg [i0 (0 : Int), i0 (0 : Int), i0 (0 : Int), s0 { data := { toList := [] } }, AV.lit (Value.slice none 0 0)], z2]) (AV.tup [AV.agg [i0 (0 : Int), i0 (0 : Int), i0 (0 : Int), s0 (Nd.text z3), AV.lst false 5 (encL (Nd.kids z3))], z2]) ∧ SameH (hpL []) (hpL []))))))) := by kernel_rfl
def ogParO : Orc := Orc.f (Orc.t (Orc.f (Orc.f (Orc.f Orc.z))))
theorem gParO_vc (s : ByteArray) (ts : List AV) (a : Int) (x : ByteArray) (r : List AV) (n : Nd) : gParO ogParO s ts a x r n = (let z1 := [eR 1048577 [0, 0] 2 [AV.agg [AV.lst false 3 ts, i0 (0 : Int)]]]; let z2 := (AV.tup [encP n, AV.lit Value.nilIface]); U1 [s0 s] [] (Nf (U1 [AV.ptr 1048577 [0, 0] 0 0] z1 (Yt (Nf (Nf (Nf (Wk z2 z2 ∧ SameH (hpL []) (hpL []))))))))) := by kernel_rfl
def ogParX : Orc := Orc.f (Orc.t (Orc.t (Orc.t Orc.z)))
theorem gParX_vc (s : ByteArray) (ts : List AV) (k a : Int) (x : ByteArray) (r : List AV) (n : Nd) : gParX ogParX s ts k a x r n = (let z1 := AV.iface 118 (AV.ref (AV.agg [i0 a, AV.iface 26 (i0 (15 : Int))])); let z2 := [eR 1048577 [0, 0] 2 [AV.agg [AV.lst false 3 ts, i0 (0 : Int)]]]; let z3 := (Nd.mk (0 : Int) (0 : Int) (0 : Int) ByteArray.empty []); U1 [s0 s] [] (Nf (U1 [AV.ptr 1048577 [0, 0] 0 0] z2 (Yt ((k != (11 : Int)) = true ∧ Yt (Wk (AV.tup [AV.agg [i0 (0 : Int), i0 (0 : Int), i0 (0 : Int), s0 { data := { toList := [] } }, AV.lit (Value.slice none 0 0)], z1]) (AV.tup [AV.agg [i0 (0 : Int), i0 (0 : Int), i0 (0 : Int), s0 (Nd.text z3), AV.lst false 5 (encL (Nd.kids z3))], z1]) ∧ SameH (hpL []) (hpL []))))))) := by kernel_rfl
end Go.Proofs.YtpofhijgccocpaaGreatDoor
end
section
namespace Go.Proofs.YtpofhijgccocpaaGreatDoor
open Go.AS Go.TP
noncomputable section
theorem wordedS_11 (s : ByteArray) : wordedS s ≠ 11 := by
 unfold wordedS
 by_cases h : s = bOr
 · rw [if_pos h]; decide
 rw [if_neg h]
 by_cases h : s = bAnd
 · rw [if_pos h]; decide
 rw [if_neg h]
 by_cases h : s = bNot
 · rw [if_pos h]; decide
 rw [if_neg h]
 by_cases h : s = bMinus
 · rw [if_pos h]; decide
 rw [if_neg h]; decide
theorem signC_11 (c : Nat) (s : ByteArray) : (signC c s).1 ≠ 11 := by
 unfold signC
 repeat' split
 all_goals decide
theorem oneS_11 (s : ByteArray) : (oneS s).1 ≠ 11 := by
 unfold oneS
 split
 · exact wordedS_11 _
 · exact signC_11 _ _
theorem okT_app : ∀ (ts : List Tk) (e : Tk), (∀ t ∈ ts, t.kind ≠ 11 ∧ t.text.size ≤ 600) → e.kind = 11 → e.text.size ≤ 600 → okT (ts ++ [e])
 | [], e, _, h1, h2 => ⟨h2, h1⟩
 | t :: ts, e, h, h1, h2 => by
  have ih := okT_app ts e (fun u hu => h u (List.mem_cons_of_mem _ hu)) h1 h2
  have ht := h t (List.mem_cons_self ..)
  show okT (t :: (ts ++ [e]))
  cases hc : ts ++ [e] with
  | nil => simp at hc
  | cons u r => rw [hc] at ih; exact ⟨ht.2, ht.1, ih⟩
theorem lexG_ok (s : ByteArray) (hs : s.size ≤ 600) : ∀ (f : Nat) (i : Int) (out ts : List Tk), (∀ t ∈ out, t.kind ≠ 11 ∧ t.text.size ≤ 600) → lexG s f i out = (none, ts) → ∀ t ∈ ts, t.kind ≠ 11 ∧ t.text.size ≤ 600 := by
 intro f
 induction f with
 | zero => intro i out ts h e; cases e; exact h
 | succ f ih =>
  intro i out ts h e
  rw [lexG] at e
  by_cases hi : i < s.size
  · rw [if_pos hi] at e
    by_cases hb : blankN (byteAt s i.toNat) = true
    · rw [if_pos hb] at e; exact ih _ _ _ h e
    · rw [if_neg hb] at e
      have e : (if (oneS (restS s i)).1 = 0 then (some i, []) else lexG s f (i + (oneS (restS s i)).2) (out ++ [tokAt s i])) = (none, ts) := e
      by_cases ho : (oneS (restS s i)).1 = 0
      · rw [if_pos ho] at e; cases e
      · rw [if_neg ho] at e
        refine ih _ _ _ (fun t ht => ?_) e
        rcases List.mem_append.1 ht with ht | ht
        · exact h t ht
        · obtain rfl := List.mem_singleton.1 ht
          refine ⟨oneS_11 _, ?_⟩
          show (s.extract _ _).size ≤ 600
          rw [ByteArray.size_extract]; omega
  · rw [if_neg hi] at e; cases e; exact h
theorem lexS_ok {s : ByteArray} {ts : List Tk} (h : lexS s = .ok ts) : okT ts := by
 unfold lexS at h
 by_cases hs : 600 < s.size
 · rw [if_pos hs] at h; cases h
 · rw [if_neg hs] at h
   have hg := lexG_ok s (by omega) s.size 0 []
   generalize lexG s s.size 0 [] = R at h hg
   obtain ⟨_ | j, us⟩ := R
   · cases h
     exact okT_app us _ (hg us (fun t ht => by cases ht) rfl) rfl (Nat.zero_le _)
   · cases h
theorem zero_wk : Wk (.agg [i0 0, i0 0, i0 0, s0 ByteArray.empty, .lit (.slice none 0 0)]) zeroV := .agg (.cons (.refl _) (.cons (.refl _) (.cons (.refl _) (.cons (.refl _) (.cons .nilS .nil)))))
theorem gParL_ok (s : ByteArray) : gParL (Orc.t Orc.z) s := by
 rw [gParL_vc]; exact ⟨(), ⟨trivial, .refl _, rfl⟩, rfl, .tup (.cons zero_wk (.refl _)), .rfl⟩
theorem gParB_ok (s : ByteArray) (i : Int) : gParB (Orc.t Orc.z) s i := by
 rw [gParB_vc]; exact ⟨(), ⟨trivial, .refl _, rfl⟩, rfl, .tup (.cons zero_wk (.refl _)), .rfl⟩
theorem gParE_ok (s : ByteArray) (ts ts' : List AV) (n : Nd) (k a : Int) : gParE (Orc.f (Orc.f (Orc.t Orc.z))) s ts ts' n k a := by
 rw [gParE_vc]; exact ⟨(), ⟨trivial, .refl _, rfl⟩, rfl, (), ⟨trivial, .refl _, rfl⟩, rfl, rfl, .tup (.cons zero_wk (.refl _)), .rfl⟩
theorem gParO_ok (s : ByteArray) (ts : List AV) (a : Int) (x : ByteArray) (r : List AV) (n : Nd) : gParO ogParO s ts a x r n := by
 rw [gParO_vc]; exact ⟨(), ⟨trivial, .refl _, rfl⟩, rfl, (), ⟨trivial, .refl _, rfl⟩, rfl, rfl, rfl, rfl, .refl _, .rfl⟩
theorem gParX_ok (s : ByteArray) (ts : List AV) (k a : Int) (x : ByteArray) (r : List AV) (n : Nd) (hk : k ≠ 11) : gParX ogParX s ts k a x r n := by
 rw [gParX_vc]; exact ⟨(), ⟨trivial, .refl _, rfl⟩, rfl, (), ⟨trivial, .refl _, rfl⟩, rfl, bne_iff_ne.2 hk, rfl, .tup (.cons zero_wk (.refl _)), .rfl⟩
attribute [local irreducible] runF in
set_option maxRecDepth 100000 in
theorem parFn {X : WX} (hX : X.Sound) (hp : X.px = X0T) {os : Orc} {s : ByteArray} {x : AV} (g : gPar X os s x) : F fParse [s0 s] x := by
 have hP : X.px.P = Tryz.prog := by rw [hp]; rfl
 have hg : X.px.gl = gl0 := by rw [hp]; rfl
 have := fn_ok (X := X.ask [fParse, fPExpect, fPNext, fPTake]) (d := 12) (hX.ask _) (f := fParse) (fn := fn fParse) (code := code fParse) (by show X.px.P.funcs[fParse]? = _; rw [hP]; exact fnOk fParse (by kernel_rfl)) (show (fn fParse).body = some (code fParse) by kernel_rfl) (by kernel_rfl) g
 show FOk Tryz.prog gl0 fParse _ _ _
 rw [← hg, ← hP]; exact this
theorem XL_ok {s : ByteArray} {x : AV} (h : F fLex [s0 s] x) : (XL s x).Sound := XT_ok.add (conOk1 (s := spLex s x) fun _ _ => h)
theorem XLP_ok {s : ByteArray} {ts ts' : List AV} {n e : AV} (h : F fLex [s0 s] (.tup [.lst false 3 ts, .lit .nilIface])) (h2 : FOk Tryz.prog gl0 fPExpr [pArg] (pHeap ts 0) (pOut ts' 0 n e)) : (XLP s ts ts' n e).Sound := (XL_ok h).add (conOk1 (s := spP ts ts' 0 n e) fun _ _ => h2)
set_option maxRecDepth 100000 in
theorem parO_ok {s : ByteArray} {ts : List Tk} (hl : F fLex [s0 s] (encLex (.ok ts))) {r : R} (hp : FOk Tryz.prog gl0 fPExpr [pArg] (pHeap (ts.map encT) 0) (pOut (r.ts.map encT) 0 (encP r.n) (encE r.e))) (hi : okT r.ts) : F fParse [s0 s] (encPar (parOf r)) := by
 obtain ⟨n, e, us⟩ := r
 cases e with
 | some ka => obtain ⟨k, a⟩ := ka; exact parFn (XLP_ok hl hp) rfl (gParE_ok s _ _ n k a)
 | none =>
  cases us with
  | nil => exact hi.elim
  | cons u us' =>
   obtain ⟨k, a, x⟩ := u
   by_cases hk : k = 11
   · subst hk
     exact parFn (XLP_ok hl hp) rfl (gParO_ok s _ a x (us'.map encT) n)
   · have e : parOf ⟨n, none, ⟨k, a, x⟩ :: us'⟩ = .bad 15 a := if_neg hk
     rw [e]
     exact parFn (XLP_ok hl hp) rfl (gParX_ok s _ k a x (us'.map encT) n hk)
set_option maxRecDepth 100000 in
theorem parse_ok (s : ByteArray) : F fParse [s0 s] (encPar (parseS s)) := by
 have hl := lex_ok s
 have ho := @lexS_ok s
 unfold parseS
 generalize lexS s = L at hl ho
 cases L with
 | long => exact parFn (XL_ok hl) rfl (gParL_ok s)
 | bad i => exact parFn (XL_ok hl) rfl (gParB_ok s i)
 | ok ts =>
  have hts := ho rfl
  exact parO_ok hl (PF_ok (5 * ts.length + 5) .expr 0 ts (Int.le_refl _) (by decide) hts (Nat.le_refl _)) (PF_inv (5 * ts.length + 5) .expr 0 ts hts).1
end
end Go.Proofs.YtpofhijgccocpaaGreatDoor
end
section
namespace Go.TP
open Go.AS
mutual
def fineS : Nd → Prop
 | .mk _ _ _ t ks => t.size ≤ 600 ∧ fineL ks
def fineL : List Nd → Prop
 | [] => True
 | n :: r => fineS n ∧ fineL r
end
theorem fine_nil {k a n : Int} : fineS (.mk k a n ByteArray.empty []) := ⟨Nat.zero_le _, trivial⟩
theorem fine_zero : fineS .zero := fine_nil
theorem fine_one {k a n : Int} {t : ByteArray} {x : Nd} (ht : t.size ≤ 600) (h : fineS x) : fineS (.mk k a n t [x]) := ⟨ht, h, trivial⟩
theorem fine_two {k a n : Int} {x y : Nd} (h : fineS x) (g : fineS y) : fineS (.mk k a n ByteArray.empty [x, y]) := ⟨Nat.zero_le _, h, g, trivial⟩
theorem e0 : ByteArray.empty.size ≤ 600 := Nat.zero_le _
theorem head_size {ts : List Tk} (h : okT ts) : (headT ts).text.size ≤ 600 := by
 cases ts with
 | nil => exact h.elim
 | cons t r => exact okT_size h
theorem chain_fine {part : List Tk → R} (hp : ∀ ts, okT ts → Inv ts (part ts)) (hq : ∀ ts, okT ts → fineS (part ts).n) (km : Int → Int) : ∀ (n : Nat) (r : R), okT r.ts → fineS r.n → fineS (chainS part km n r).n
 | 0, r, _, h => by rw [chainS]; exact h
 | n + 1, r, h, hn => by
  rw [chainS]
  split
  · have h1 := takeT_ok h
    exact chain_fine hp hq km n ⟨.mk (km (headT r.ts).kind) (headT r.ts).at_ 0 ByteArray.empty [r.n, (part (takeT r.ts)).n], (part (takeT r.ts)).e, (part (takeT r.ts)).ts⟩ (hp _ h1.1).1 (fine_two hn (hq _ h1.1))
  · exact hn
theorem within_fine {d : Int} {t : Tk} {n0 : Nd} {us : List Tk} {f : Int → List Tk → R} (h : fineS n0) (hf : fineS (f (d + 1) us).n) : fineS (withinS d t n0 us f).n := by
 unfold withinS
 split
 · exact h
 · exact hf
theorem PF_fine : ∀ (f : Nat) (lv : Lv) (d : Int) (ts : List Tk), okT ts → fineS (PF f lv d ts).n
 | 0, _, _, ts, h => by rw [PF]; exact fine_zero
 | f + 1, .expr, d, ts, h => by
  rw [PF]
  exact chain_fine (fun us hu => PF_inv f .term d us hu) (fun us hu => PF_fine f .term d us hu) kmE f _ (PF_inv f .term d ts h).1 (PF_fine f .term d ts h)
 | f + 1, .term, d, ts, h => by
  rw [PF]
  exact chain_fine (fun us hu => PF_inv f .part d us hu) (fun us hu => PF_fine f .part d us hu) kmT f _ (PF_inv f .part d ts h).1 (PF_fine f .part d ts h)
 | f + 1, .part, d, ts, h => by
  rw [PF]
  simp only
  split
  · exact PF_fine f .ranged d ts h
  · exact within_fine fine_nil (fine_one e0 (PF_fine f .part (d + 1) _ (takeT_ok h).1))
 | f + 1, .ranged, d, ts, h => by
  rw [PF]
  simp only
  have h1 := takeT_ok h
  split
  · exact within_fine fine_nil (fine_one e0 (PF_fine f .atom (d + 1) _ h1.1))
  · have h2 := PF_fine f .atom d ts h
    have i2 := PF_inv f .atom d ts h
    have second : ∀ (d : Int) (us : List Tk) (k a : Int) (n : Nd) (m : Bool), okT us → fineS n → fineS (secondS (PF f .atom d) k a n m us).n := fun d us k a n m hu hn => by
      unfold secondS
      split
      · exact fine_one e0 hn
      · exact fine_two hn (PF_fine f .atom d us hu)
    have h3 := takeT_ok i2.1
    split
    · exact h2
    · split
      · exact within_fine (fine_one e0 h2) (second _ _ _ _ _ _ h3.1 h2)
      · split
        · exact second _ _ _ _ _ _ h3.1 h2
        · exact h2
 | f + 1, .atom, d, ts, h => by
  rw [PF]
  simp only
  have hs := head_size h
  have h1 := takeT_ok h
  have h3 := takeT_ok h1.1
  split
  · refine within_fine fine_zero ?_
    have h2 := PF_fine f .expr (d + 1) _ h1.1
    split
    · exact h2
    · exact h2
  · split
    · split
      · unfold callS
        simp only
        split
        · exact fine_zero
        · refine within_fine fine_zero ?_
          split
          · exact ⟨hs, trivial⟩
          · have h2 := PF_fine f .expr (d + 1) _ h3.1
            split
            · exact fine_one hs h2
            · split
              · exact fine_one hs h2
              · split
                · exact fine_one hs h2
                · split
                  · exact fine_one hs h2
                  · exact fine_one hs h2
      · split
        · exact ⟨hs, trivial⟩
        · exact fine_zero
    · exact fine_zero
end Go.TP
end
section
namespace Go.Proofs.YtpofhijgccocpaaGreatDoor
abbrev fRewrite : Nat := 23
abbrev fRewritten : Nat := 56
abbrev fOnce : Nat := 98
abbrev fAs : Nat := 118
abbrev fCalled : Nat := 119
abbrev fSided : Nat := 121
abbrev fInnerR : Nat := 135
abbrev fCallR : Nat := 136
abbrev fNamedR : Nat := 138
abbrev fSize : Nat := 25
abbrev fNames : Nat := 28
abbrev fKnown19 : Nat := 21
abbrev fRewriteNames : Nat := 6
end Go.Proofs.YtpofhijgccocpaaGreatDoor
end
section
namespace Go.Proofs.YtpofhijgccocpaaGreatDoor
open Go.AS Go.TP
noncomputable section
abbrev ndV (k a m : Int) (t : ByteArray) (ks : List AV) : AV := .agg [i0 k, i0 a, i0 m, s0 t, .lst false 5 ks]
def spFormR : Sp := .pure ByteArray (fun _ => True) (fun w => [s0 w]) (fun w => i0 (formS w))
def spPreR : Sp := .pure ByteArray (fun w => w.size ≤ 1000000) (fun w => [s0 w]) (fun w => b0 (isPrefixS w))
noncomputable def XR0 : WX := (XB.add fForm (Sp.con [spFormR])).add fIsPrefix (Sp.con [spPreR])
def gKids (os : Orc) (k a m : Int) (t : ByteArray) (ks : List AV) (r : Int) : Prop := gF XR0 [fKids] fKids os [ndV k a m t ks] (i0 r)
def gNamed (os : Orc) (k a m : Int) (t : ByteArray) (ks : List AV) (r : Bool) : Prop := gF XR0 [fNamed] fNamed os [ndV k a m t ks] (b0 r)
structure NV where
 k : Int
 a : Int
 m : Int
 t : ByteArray
 ks : List AV
def spKidsR : Sp := .pure NV (fun _ => True) (fun v => [ndV v.k v.a v.m v.t v.ks]) (fun v => i0 (kidsN v.k v.t))
def spNamedR : Sp := .pure NV (fun v => v.t.size ≤ 1000000) (fun v => [ndV v.k v.a v.m v.t v.ks]) (fun v => b0 (namedS v.k v.m v.t))
noncomputable def XR1 : WX := (XR0.add fKids (Sp.con [spKidsR])).add fNamed (Sp.con [spNamedR])
def spRight (P : Nd → Prop) : Sp := .pure Nd (fun n => P n) (fun n => [encP n]) (fun n => b0 (rightS n))
def gRi (X : WX) (os : Orc) (k a m : Int) (t : ByteArray) (ks : List AV) (r : Bool) : Prop := gF X [fRight, fRight1, fContains, fIndexF] fRight os [ndV k a m t ks] (b0 r)
def gRiA (os : Orc) (k a m : Int) (t : ByteArray) (ks : List AV) : Prop := gRi XR1 os k a m t ks false
def gRiB (os : Orc) (k a m : Int) (t : ByteArray) (ks : List AV) : Prop := gRi XR1 os k a m t ks false
def gRiC (os : Orc) (k a m : Int) (t : ByteArray) (ks : List AV) : Prop := gRi XR1 os k a m t ks false
def gRi0 (os : Orc) (k a m : Int) (t : ByteArray) : Prop := gRi XR1 os k a m t [] true
def gRi1 (os : Orc) (P : Nd → Prop) (k a m : Int) (t : ByteArray) (x : Nd) (b : Bool) : Prop := gRi (XR1.add fRight (Sp.con [spRight P])) os k a m t [encP x] b
def gRi2 (os : Orc) (P : Nd → Prop) (k a m : Int) (t : ByteArray) (x y : Nd) (b : Bool) : Prop := gRi (XR1.add fRight (Sp.con [spRight P])) os k a m t [encP x, encP y] b
/-! the same trees -/
def spSame (P : Nd → Nd → Prop) : Sp := .pure (Nd × Nd) (fun n => P n.1 n.2) (fun n => [encP n.1, encP n.2]) (fun n => b0 (sameS n.1 n.2))
def gSa (X : WX) (os : Orc) (k a m : Int) (t : ByteArray) (ks : List AV) (k2 a2 m2 : Int) (t2 : ByteArray) (ks2 : List AV) (r : Bool) : Prop := gF X [fSame, fEqualF] fSame os [ndV k a m t ks, ndV k2 a2 m2 t2 ks2] (b0 r)
def gSaK (os : Orc) (k a m : Int) (t : ByteArray) (ks : List AV) (k2 a2 m2 : Int) (t2 : ByteArray) (ks2 : List AV) : Prop := gSa XB os k a m t ks k2 a2 m2 t2 ks2 false
def gSaM (os : Orc) (k a m : Int) (t : ByteArray) (ks : List AV) (k2 a2 m2 : Int) (t2 : ByteArray) (ks2 : List AV) : Prop := gSa XB os k a m t ks k2 a2 m2 t2 ks2 false
def gSaT (os : Orc) (k a m : Int) (t : ByteArray) (ks : List AV) (k2 a2 m2 : Int) (t2 : ByteArray) (ks2 : List AV) : Prop := gSa XB os k a m t ks k2 a2 m2 t2 ks2 false
def gSaL (os : Orc) (k a m : Int) (t : ByteArray) (ks : List AV) (k2 a2 m2 : Int) (t2 : ByteArray) (ks2 : List AV) : Prop := gSa XB os k a m t ks k2 a2 m2 t2 ks2 false
def gSa0 (os : Orc) (k a m : Int) (t : ByteArray) (k2 a2 m2 : Int) (t2 : ByteArray) (r : Bool) : Prop := gSa XB os k a m t [] k2 a2 m2 t2 [] r
def gSa1 (os : Orc) (P : Nd → Nd → Prop) (k a m : Int) (t : ByteArray) (k2 a2 m2 : Int) (t2 : ByteArray) (x x2 : Nd) (r : Bool) : Prop := gSa (XB.add fSame (Sp.con [spSame P])) os k a m t [encP x] k2 a2 m2 t2 [encP x2] r
def gSa2 (os : Orc) (P : Nd → Nd → Prop) (k a m : Int) (t : ByteArray) (k2 a2 m2 : Int) (t2 : ByteArray) (x y x2 y2 : Nd) (r : Bool) : Prop := gSa (XB.add fSame (Sp.con [spSame P])) os k a m t [encP x, encP y] k2 a2 m2 t2 [encP x2, encP y2] r
/-! names -/
def spNames (P : Nd → Prop) : Sp := .pure Nd (fun n => P n) (fun n => [encP n]) (fun n => .lst false 5 (encL (namesS n)))
def gNs (X : WX) (os : Orc) (k a m : Int) (t : ByteArray) (ks r : List AV) : Prop := runF (X.ask [fNames]) 12 fNames (fn fNames) (code fNames) os 1 [] [ndV k a m t ks] .nil ⟨.lst false 5 r, .nil, []⟩
def gNsN (os : Orc) (a m : Int) (t : ByteArray) (ks : List AV) : Prop := gNs XB os 1 a m t ks [ndV 1 a 0 t []]
def gNs0 (os : Orc) (k a m : Int) (t : ByteArray) : Prop := gNs XB os k a m t [] []
def gNs1 (os : Orc) (P : Nd → Prop) (k a m : Int) (t : ByteArray) (x : Nd) : Prop := gNs (XB.add fNames (Sp.con [spNames P])) os k a m t [encP x] (encL (namesS x))
def gNs2 (os : Orc) (P : Nd → Prop) (k a m : Int) (t : ByteArray) (x y : Nd) : Prop := gNs (XB.add fNames (Sp.con [spNames P])) os k a m t [encP x, encP y] (encL (namesS x) ++ encL (namesS y))
end
end Go.Proofs.YtpofhijgccocpaaGreatDoor
end
section
namespace Go.Proofs.YtpofhijgccocpaaGreatDoor
open Go Go.AS Go.TP
def ogKids : Orc := Orc.s (Orc.t Orc.z) (Orc.s (Orc.t Orc.z) (Orc.s (Orc.t Orc.z) (Orc.s (Orc.t Orc.z) (Orc.s Orc.z (Orc.s (Orc.t Orc.z) (Orc.s (Orc.t Orc.z) (Orc.s Orc.z (Orc.s Orc.z (Orc.s Orc.z Orc.z)))))))))
theorem gKids_vc (k a m : Int) (t : ByteArray) (ks : List AV) (r : Int) : gKids ogKids k a m t ks r = (let z1 := (i0 (2 : Int)); ((k == (2 : Int)) = true → Yt (Wk z1 (i0 r) ∧ SameH (hpL []) (hpL []))) ∧ ((k == (2 : Int)) = false → ((k == (3 : Int)) = true → Yt (Wk z1 (i0 r) ∧ SameH (hpL []) (hpL []))) ∧ ((k == (3 : Int)) = false → ((k == (4 : Int)) = true → Yt (Wk z1 (i0 r) ∧ SameH (hpL []) (hpL []))) ∧ ((k == (4 : Int)) = false → ((k == (8 : Int)) = true → Yt (Wk z1 (i0 r) ∧ SameH (hpL []) (hpL []))) ∧ ((k == (8 : Int)) = false → ((k == (9 : Int)) = true → Wk z1 (i0 r) ∧ SameH (hpL []) (hpL [])) ∧ ((k == (9 : Int)) = false → ((k == (5 : Int)) = true → Yt (Wk (i0 (1 : Int)) (i0 r) ∧ SameH (hpL []) (hpL []))) ∧ ((k == (5 : Int)) = false → ((k == (6 : Int)) = true → Yt (Wk (i0 (1 : Int)) (i0 r) ∧ SameH (hpL []) (hpL []))) ∧ ((k == (6 : Int)) = false → ((k == (7 : Int)) = true → Wk (i0 (1 : Int)) (i0 r) ∧ SameH (hpL []) (hpL [])) ∧ ((k == (7 : Int)) = false → ((k == (1 : Int)) = true → Wk (i0 (0 : Int)) (i0 r) ∧ SameH (hpL []) (hpL [])) ∧ ((k == (1 : Int)) = false → ((k == (10 : Int)) = true → ∃ (i1 : ByteArray), (True ∧ Wks [s0 t] [s0 i1] ∧ hpL [] = hpL []) ∧ inR IntKind.i64 (formS i1 - (1 : Int)) = true ∧ Wk (i0 (if (1 : Int) < formS i1 - (1 : Int) then (1 : Int) else formS i1 - (1 : Int))) (i0 r) ∧ SameH (hpL []) (hpL [])) ∧ ((k == (10 : Int)) = false → Wk (i0 (-1 : Int)) (i0 r) ∧ SameH (hpL []) (hpL [])))))))))))) := by kernel_rfl
def ogNamed : Orc := Orc.s (Orc.s (Orc.t (Orc.t Orc.z)) (Orc.f (Orc.f Orc.z))) (Orc.s (Orc.s (Orc.t (Orc.t (Orc.t (Orc.t (Orc.t (Orc.t (Orc.t Orc.z))))))) (Orc.f (Orc.f (Orc.f (Orc.f (Orc.s (Orc.t (Orc.t (Orc.f (Orc.f (Orc.s (Orc.t (Orc.t (Orc.f Orc.z))) (Orc.f (Orc.f (Orc.f Orc.z)))))))) (Orc.f (Orc.f (Orc.f (Orc.f (Orc.f (Orc.f (Orc.f (Orc.f Orc.z)))))))))))))) (Orc.s (Orc.t (Orc.t Orc.z)) (Orc.f (Orc.f Orc.z))))
theorem gNamed_vc (k a m : Int) (t : ByteArray) (ks : List AV) (r : Bool) : gNamed ogNamed k a m t ks r = (let z1 := (m == (0 : Int)); ((k == (1 : Int)) = true → ∃ (i1 : ByteArray), (ByteArray.size i1 ≤ 1000000 ∧ Wks [s0 t] [s0 i1] ∧ hpL [] = hpL []) ∧ (isPrefixS i1 = true → Yt (Yt (Wk (b0 z1) (b0 r) ∧ SameH (hpL []) (hpL [])))) ∧ (isPrefixS i1 = false → Nf (Nf (Wk (b0 false) (b0 r) ∧ SameH (hpL []) (hpL []))))) ∧ ((k == (1 : Int)) = false → ((k == (10 : Int)) = true → (z1 = true → Yt4 (Yt (Yt (Yt (Wk (b0 true) (b0 r) ∧ SameH (hpL []) (hpL [])))))) ∧ (z1 = false → Nf (Nf (∃ (i2 : ByteArray), (True ∧ Wks [s0 t] [s0 i2] ∧ hpL [] = hpL []) ∧ Nf (Nf (((formS i2 == (3 : Int)) = true → Yt (Yt (Nf (Nf ((decide (m > (0 : Int)) = true → Yt (Yt (Nf (Wk (b0 (decide (m ≤ (999999 : Int)))) (b0 r) ∧ SameH (hpL []) (hpL []))))) ∧ (decide (m > (0 : Int)) = false → Nf (Nf (Nf (Wk (b0 false) (b0 r) ∧ SameH (hpL []) (hpL [])))))))))) ∧ ((formS i2 == (3 : Int)) = false → Nf4 (Nf4 (Wk (b0 false) (b0 r) ∧ SameH (hpL []) (hpL [])))))))))) ∧ ((k == (10 : Int)) = false → ((ByteArray.toList t == ByteArray.toList { data := { toList := [] } }) = true → Yt (Yt (Wk (b0 z1) (b0 r) ∧ SameH (hpL []) (hpL [])))) ∧ ((ByteArray.toList t == ByteArray.toList { data := { toList := [] } }) = false → Nf (Nf (Wk (b0 false) (b0 r) ∧ SameH (hpL []) (hpL []))))))) := by kernel_rfl
def ogRiA : Orc := Orc.t (Orc.t (Orc.t (Orc.t (Orc.t (Orc.t (Orc.t (Orc.t (Orc.t Orc.z))))))))
theorem gRiA_vc (k a m : Int) (t : ByteArray) (ks : List AV) : gRiA ogRiA k a m t ks = (∃ (i1 : NV), (True ∧ Wks [AV.agg [i0 k, i0 a, i0 m, s0 t, AV.lst false 5 ks]] [AV.agg [i0 (NV.k i1), i0 (NV.a i1), i0 (NV.m i1), s0 (NV.t i1), AV.lst false 5 (NV.ks i1)]] ∧ hpL [] = hpL []) ∧ decide (kidsN (NV.k i1) (NV.t i1) < (0 : Int)) = true ∧ Yt4 (Yt4 (Wk (b0 false) (b0 false) ∧ SameH (hpL []) (hpL [])))) := by kernel_rfl
def ogRiB : Orc := Orc.f (Orc.f (Orc.f (Orc.f (Orc.f (Orc.t (Orc.t (Orc.t (Orc.t Orc.z))))))))
theorem gRiB_vc (k a m : Int) (t : ByteArray) (ks : List AV) : gRiB ogRiB k a m t ks = (∃ (i1 : NV), (True ∧ Wks [AV.agg [i0 k, i0 a, i0 m, s0 t, AV.lst false 5 ks]] [AV.agg [i0 (NV.k i1), i0 (NV.a i1), i0 (NV.m i1), s0 (NV.t i1), AV.lst false 5 (NV.ks i1)]] ∧ hpL [] = hpL []) ∧ decide (kidsN (NV.k i1) (NV.t i1) < (0 : Int)) = false ∧ Nf4 ((kidsN (NV.k i1) (NV.t i1) != (↑(List.length ks) : Int)) = true ∧ Yt (Yt (Yt (Wk (b0 false) (b0 false) ∧ SameH (hpL []) (hpL [])))))) := by kernel_rfl
def ogRiC : Orc := Orc.f (Orc.f (Orc.f (Orc.f (Orc.f (Orc.f (Orc.f (Orc.f (Orc.t Orc.z))))))))
theorem gRiC_vc (k a m : Int) (t : ByteArray) (ks : List AV) : gRiC ogRiC k a m t ks = (let z1 := [AV.agg [i0 k, i0 a, i0 m, s0 t, AV.lst false 5 ks]]; ∃ (i1 : NV), (True ∧ Wks z1 [AV.agg [i0 (NV.k i1), i0 (NV.a i1), i0 (NV.m i1), s0 (NV.t i1), AV.lst false 5 (NV.ks i1)]] ∧ hpL [] = hpL []) ∧ decide (kidsN (NV.k i1) (NV.t i1) < (0 : Int)) = false ∧ Nf4 ((kidsN (NV.k i1) (NV.t i1) != (↑(List.length ks) : Int)) = false ∧ Nf (∃ (i2 : NV), (ByteArray.size (NV.t i2) ≤ 1000000 ∧ Wks z1 [AV.agg [i0 (NV.k i2), i0 (NV.a i2), i0 (NV.m i2), s0 (NV.t i2), AV.lst false 5 (NV.ks i2)]] ∧ hpL [] = hpL []) ∧ Nf ((!namedS (NV.k i2) (NV.m i2) (NV.t i2)) = true ∧ Wk (b0 false) (b0 false) ∧ SameH (hpL []) (hpL []))))) := by kernel_rfl
def ogRi0 : Orc := Orc.f (Orc.f (Orc.f (Orc.f (Orc.f (Orc.f (Orc.f (Orc.f (Orc.f (Orc.f Orc.z)))))))))
theorem gRi0_vc (k a m : Int) (t : ByteArray) : gRi0 ogRi0 k a m t = (let z1 := [AV.agg [i0 k, i0 a, i0 m, s0 t, AV.lst false 5 []]]; ∃ (i1 : NV), (True ∧ Wks z1 [AV.agg [i0 (NV.k i1), i0 (NV.a i1), i0 (NV.m i1), s0 (NV.t i1), AV.lst false 5 (NV.ks i1)]] ∧ hpL [] = hpL []) ∧ decide (kidsN (NV.k i1) (NV.t i1) < (0 : Int)) = false ∧ Nf4 ((kidsN (NV.k i1) (NV.t i1) != (0 : Int)) = false ∧ Nf (∃ (i2 : NV), (ByteArray.size (NV.t i2) ≤ 1000000 ∧ Wks z1 [AV.agg [i0 (NV.k i2), i0 (NV.a i2), i0 (NV.m i2), s0 (NV.t i2), AV.lst false 5 (NV.ks i2)]] ∧ hpL [] = hpL []) ∧ Nf ((!namedS (NV.k i2) (NV.m i2) (NV.t i2)) = false ∧ Nf (Wk (b0 true) (b0 true) ∧ SameH (hpL []) (hpL [])))))) := by kernel_rfl
def ogRi1 : Orc := Orc.f (Orc.f (Orc.f (Orc.f (Orc.f (Orc.f (Orc.f (Orc.f (Orc.f (Orc.t (Orc.s Orc.z (Orc.f Orc.z)))))))))))
theorem gRi1_vc (P : Nd → Prop) (k a m : Int) (t : ByteArray) (x : Nd) (b : Bool) : gRi1 ogRi1 P k a m t x b = (let z1 := [AV.agg [i0 k, i0 a, i0 m, s0 t, AV.lst false 5 [encP x]]]; let z2 := (↑(List.length [encP x]) : Int); ∃ (i1 : NV), (True ∧ Wks z1 [AV.agg [i0 (NV.k i1), i0 (NV.a i1), i0 (NV.m i1), s0 (NV.t i1), AV.lst false 5 (NV.ks i1)]] ∧ hpL [] = hpL []) ∧ decide (kidsN (NV.k i1) (NV.t i1) < (0 : Int)) = false ∧ Nf4 ((kidsN (NV.k i1) (NV.t i1) != z2) = false ∧ Nf (∃ (i2 : NV), (ByteArray.size (NV.t i2) ≤ 1000000 ∧ Wks z1 [AV.agg [i0 (NV.k i2), i0 (NV.a i2), i0 (NV.m i2), s0 (NV.t i2), AV.lst false 5 (NV.ks i2)]] ∧ hpL [] = hpL []) ∧ Nf ((!namedS (NV.k i2) (NV.m i2) (NV.t i2)) = false ∧ decide ((0 : Int) < z2) = true ∧ ∃ (i3 : Nd), (P i3 ∧ Wks [encP x] [encP i3] ∧ hpL [] = hpL []) ∧ ((!rightS i3) = true → Wk (b0 false) (b0 b) ∧ SameH (hpL []) (hpL [])) ∧ ((!rightS i3) = false → Yt (decide ((1 : Int) < z2) = false ∧ Wk (b0 true) (b0 b) ∧ SameH (hpL []) (hpL []))))))) := by kernel_rfl
def ogRi2 : Orc := Orc.f (Orc.f (Orc.f (Orc.f (Orc.f (Orc.f (Orc.f (Orc.f (Orc.f (Orc.t (Orc.s Orc.z (Orc.t (Orc.s Orc.z (Orc.f Orc.z)))))))))))))
theorem gRi2_vc (P : Nd → Prop) (k a m : Int) (t : ByteArray) (x y : Nd) (b : Bool) : gRi2 ogRi2 P k a m t x y b = (let z1 := (↑(List.length [encP x, encP y]) : Int); let z2 := [AV.agg [i0 k, i0 a, i0 m, s0 t, AV.lst false 5 [encP x, encP y]]]; ∃ (i1 : NV), (True ∧ Wks z2 [AV.agg [i0 (NV.k i1), i0 (NV.a i1), i0 (NV.m i1), s0 (NV.t i1), AV.lst false 5 (NV.ks i1)]] ∧ hpL [] = hpL []) ∧ decide (kidsN (NV.k i1) (NV.t i1) < (0 : Int)) = false ∧ Nf4 ((kidsN (NV.k i1) (NV.t i1) != z1) = false ∧ Nf (∃ (i2 : NV), (ByteArray.size (NV.t i2) ≤ 1000000 ∧ Wks z2 [AV.agg [i0 (NV.k i2), i0 (NV.a i2), i0 (NV.m i2), s0 (NV.t i2), AV.lst false 5 (NV.ks i2)]] ∧ hpL [] = hpL []) ∧ Nf ((!namedS (NV.k i2) (NV.m i2) (NV.t i2)) = false ∧ decide ((0 : Int) < z1) = true ∧ ∃ (i3 : Nd), (P i3 ∧ Wks [encP x] [encP i3] ∧ hpL [] = hpL []) ∧ ((!rightS i3) = true → Wk (b0 false) (b0 b) ∧ SameH (hpL []) (hpL [])) ∧ ((!rightS i3) = false → Yt (decide ((1 : Int) < z1) = true ∧ ∃ (i4 : Nd), (P i4 ∧ Wks [encP y] [encP i4] ∧ hpL [] = hpL []) ∧ ((!rightS i4) = true → Wk (b0 false) (b0 b) ∧ SameH (hpL []) (hpL [])) ∧ ((!rightS i4) = false → Yt (decide ((2 : Int) < z1) = false ∧ Wk (b0 true) (b0 b) ∧ SameH (hpL []) (hpL []))))))))) := by kernel_rfl
def ogSaK : Orc := Orc.f (Orc.f (Orc.f (Orc.f (Orc.f (Orc.f (Orc.f (Orc.f (Orc.f (Orc.f (Orc.f (Orc.f (Orc.f (Orc.f (Orc.f Orc.z))))))))))))))
theorem gSaK_vc (k a m : Int) (t : ByteArray) (ks : List AV) (k2 a2 m2 : Int) (t2 : ByteArray) (ks2 : List AV) : gSaK ogSaK k a m t ks k2 a2 m2 t2 ks2 = ((k == k2) = false ∧ Nf4 (Nf4 (Nf4 (Nf (Nf (Wk (b0 false) (b0 false) ∧ SameH (hpL []) (hpL []))))))) := by kernel_rfl
def ogSaM : Orc := Orc.t (Orc.t (Orc.t (Orc.t (Orc.t (Orc.f (Orc.f (Orc.f (Orc.f (Orc.f (Orc.f (Orc.f (Orc.f (Orc.f (Orc.f Orc.z))))))))))))))
theorem gSaM_vc (k a m : Int) (t : ByteArray) (ks : List AV) (k2 a2 m2 : Int) (t2 : ByteArray) (ks2 : List AV) : gSaM ogSaM k a m t ks k2 a2 m2 t2 ks2 = ((k == k2) = true ∧ Yt4 ((m == m2) = false ∧ Nf4 (Nf4 (Nf (Wk (b0 false) (b0 false) ∧ SameH (hpL []) (hpL [])))))) := by kernel_rfl
def ogSaT : Orc := Orc.t (Orc.t (Orc.t (Orc.t (Orc.t (Orc.t (Orc.t (Orc.t (Orc.t (Orc.t (Orc.f (Orc.f (Orc.f (Orc.f (Orc.f Orc.z))))))))))))))
theorem gSaT_vc (k a m : Int) (t : ByteArray) (ks : List AV) (k2 a2 m2 : Int) (t2 : ByteArray) (ks2 : List AV) : gSaT ogSaT k a m t ks k2 a2 m2 t2 ks2 = ((k == k2) = true ∧ Yt4 ((m == m2) = true ∧ Yt4 ((ByteArray.toList t == ByteArray.toList t2) = false ∧ Nf4 (Wk (b0 false) (b0 false) ∧ SameH (hpL []) (hpL []))))) := by kernel_rfl
def ogSaL : Orc := Orc.t (Orc.t (Orc.t (Orc.t (Orc.t (Orc.t (Orc.t (Orc.t (Orc.t (Orc.t (Orc.t (Orc.t (Orc.t (Orc.t (Orc.t (Orc.t Orc.z)))))))))))))))
theorem gSaL_vc (k a m : Int) (t : ByteArray) (ks : List AV) (k2 a2 m2 : Int) (t2 : ByteArray) (ks2 : List AV) : gSaL ogSaL k a m t ks k2 a2 m2 t2 ks2 = ((k == k2) = true ∧ Yt4 ((m == m2) = true ∧ Yt4 ((ByteArray.toList t == ByteArray.toList t2) = true ∧ Yt4 (((↑(List.length ks) : Int) != (↑(List.length ks2) : Int)) = true ∧ Wk (b0 false) (b0 false) ∧ SameH (hpL []) (hpL []))))) := by kernel_rfl
def ogSa0 : Orc := Orc.s (Orc.t (Orc.t (Orc.t (Orc.t (Orc.s (Orc.t (Orc.t (Orc.t (Orc.t (Orc.s (Orc.t (Orc.t (Orc.t (Orc.t (Orc.f (Orc.f Orc.z)))))) (Orc.f (Orc.f (Orc.f (Orc.f Orc.z))))))))) (Orc.f (Orc.f (Orc.f (Orc.f (Orc.f (Orc.f (Orc.f (Orc.f (Orc.f Orc.z)))))))))))))) (Orc.f (Orc.f (Orc.f (Orc.f (Orc.f (Orc.f (Orc.f (Orc.f (Orc.f (Orc.f (Orc.f (Orc.f (Orc.f (Orc.f Orc.z))))))))))))))
theorem gSa0_vc (k a m : Int) (t : ByteArray) (k2 a2 m2 : Int) (t2 : ByteArray) (r : Bool) : gSa0 ogSa0 k a m t k2 a2 m2 t2 r = (let z1 := (ByteArray.toList t == ByteArray.toList t2); ((k == k2) = true → Yt4 (((m == m2) = true → Yt4 ((z1 = true → Yt4 (Nf (Nf (Wk (b0 true) (b0 r) ∧ SameH (hpL []) (hpL []))))) ∧ (z1 = false → Nf4 (Wk (b0 false) (b0 r) ∧ SameH (hpL []) (hpL []))))) ∧ ((m == m2) = false → Nf4 (Nf4 (Nf (Wk (b0 false) (b0 r) ∧ SameH (hpL []) (hpL []))))))) ∧ ((k == k2) = false → Nf4 (Nf4 (Nf4 (Nf (Nf (Wk (b0 false) (b0 r) ∧ SameH (hpL []) (hpL [])))))))) := by kernel_rfl
def ogSa1 : Orc := Orc.s (Orc.t (Orc.t (Orc.t (Orc.t (Orc.s (Orc.t (Orc.t (Orc.t (Orc.t (Orc.s (Orc.t (Orc.t (Orc.t (Orc.t (Orc.f (Orc.t (Orc.s Orc.z (Orc.f Orc.z)))))))) (Orc.f (Orc.f (Orc.f (Orc.f Orc.z))))))))) (Orc.f (Orc.f (Orc.f (Orc.f (Orc.f (Orc.f (Orc.f (Orc.f (Orc.f Orc.z)))))))))))))) (Orc.f (Orc.f (Orc.f (Orc.f (Orc.f (Orc.f (Orc.f (Orc.f (Orc.f (Orc.f (Orc.f (Orc.f (Orc.f (Orc.f Orc.z))))))))))))))
theorem gSa1_vc (P : Nd → Nd → Prop) (k a m : Int) (t : ByteArray) (k2 a2 m2 : Int) (t2 : ByteArray) (x x2 : Nd) (r : Bool) : gSa1 ogSa1 P k a m t k2 a2 m2 t2 x x2 r = (let z1 := (↑(List.length [encP x]) : Int); let z2 := (ByteArray.toList t == ByteArray.toList t2); ((k == k2) = true → Yt4 (((m == m2) = true → Yt4 ((z2 = true → Yt4 ((z1 != (↑(List.length [encP x2]) : Int)) = false ∧ decide ((0 : Int) < z1) = true ∧ ∃ (i1 : Nd × Nd), (P (Prod.fst i1) (Prod.snd i1) ∧ Wks [encP x, encP x2] [AV.agg [i0 (Nd.kind (Prod.fst i1)), i0 (Nd.at_ (Prod.fst i1)), i0 (Nd.num (Prod.fst i1)), s0 (Nd.text (Prod.fst i1)), AV.lst false 5 (encL (Nd.kids (Prod.fst i1)))], AV.agg [i0 (Nd.kind (Prod.snd i1)), i0 (Nd.at_ (Prod.snd i1)), i0 (Nd.num (Prod.snd i1)), s0 (Nd.text (Prod.snd i1)), AV.lst false 5 (encL (Nd.kids (Prod.snd i1)))]] ∧ hpL [] = hpL []) ∧ ((!sameS (Prod.fst i1) (Prod.snd i1)) = true → Wk (b0 false) (b0 r) ∧ SameH (hpL []) (hpL [])) ∧ ((!sameS (Prod.fst i1) (Prod.snd i1)) = false → Yt (decide ((1 : Int) < z1) = false ∧ Wk (b0 true) (b0 r) ∧ SameH (hpL []) (hpL []))))) ∧ (z2 = false → Nf4 (Wk (b0 false) (b0 r) ∧ SameH (hpL []) (hpL []))))) ∧ ((m == m2) = false → Nf4 (Nf4 (Nf (Wk (b0 false) (b0 r) ∧ SameH (hpL []) (hpL []))))))) ∧ ((k == k2) = false → Nf4 (Nf4 (Nf4 (Nf (Nf (Wk (b0 false) (b0 r) ∧ SameH (hpL []) (hpL [])))))))) := by kernel_rfl
def ogSa2 : Orc := Orc.s (Orc.t (Orc.t (Orc.t (Orc.t (Orc.s (Orc.t (Orc.t (Orc.t (Orc.t (Orc.s (Orc.t (Orc.t (Orc.t (Orc.t (Orc.f (Orc.t (Orc.s Orc.z (Orc.t (Orc.s Orc.z (Orc.f Orc.z)))))))))) (Orc.f (Orc.f (Orc.f (Orc.f Orc.z))))))))) (Orc.f (Orc.f (Orc.f (Orc.f (Orc.f (Orc.f (Orc.f (Orc.f (Orc.f Orc.z)))))))))))))) (Orc.f (Orc.f (Orc.f (Orc.f (Orc.f (Orc.f (Orc.f (Orc.f (Orc.f (Orc.f (Orc.f (Orc.f (Orc.f (Orc.f Orc.z))))))))))))))
theorem gSa2_vc (P : Nd → Nd → Prop) (k a m : Int) (t : ByteArray) (k2 a2 m2 : Int) (t2 : ByteArray) (x y : Nd) (x2 y2 : Nd) (r : Bool) : gSa2 ogSa2 P k a m t k2 a2 m2 t2 x y x2 y2 r = (let z1 := (↑(List.length [encP x, encP y]) : Int); let z2 := (ByteArray.toList t == ByteArray.toList t2); ((k == k2) = true → Yt4 (((m == m2) = true → Yt4 ((z2 = true → Yt4 ((z1 != (↑(List.length [encP x2, encP y2]) : Int)) = false ∧ decide ((0 : Int) < z1) = true ∧ ∃ (i1 : Nd × Nd), (P (Prod.fst i1) (Prod.snd i1) ∧ Wks [encP x, encP x2] [AV.agg [i0 (Nd.kind (Prod.fst i1)), i0 (Nd.at_ (Prod.fst i1)), i0 (Nd.num (Prod.fst i1)), s0 (Nd.text (Prod.fst i1)), AV.lst false 5 (encL (Nd.kids (Prod.fst i1)))], AV.agg [i0 (Nd.kind (Prod.snd i1)), i0 (Nd.at_ (Prod.snd i1)), i0 (Nd.num (Prod.snd i1)), s0 (Nd.text (Prod.snd i1)), AV.lst false 5 (encL (Nd.kids (Prod.snd i1)))]] ∧ hpL [] = hpL []) ∧ ((!sameS (Prod.fst i1) (Prod.snd i1)) = true → Wk (b0 false) (b0 r) ∧ SameH (hpL []) (hpL [])) ∧ ((!sameS (Prod.fst i1) (Prod.snd i1)) = false → Yt (decide ((1 : Int) < z1) = true ∧ ∃ (i2 : Nd × Nd), (P (Prod.fst i2) (Prod.snd i2) ∧ Wks [encP y, encP y2] [AV.agg [i0 (Nd.kind (Prod.fst i2)), i0 (Nd.at_ (Prod.fst i2)), i0 (Nd.num (Prod.fst i2)), s0 (Nd.text (Prod.fst i2)), AV.lst false 5 (encL (Nd.kids (Prod.fst i2)))], AV.agg [i0 (Nd.kind (Prod.snd i2)), i0 (Nd.at_ (Prod.snd i2)), i0 (Nd.num (Prod.snd i2)), s0 (Nd.text (Prod.snd i2)), AV.lst false 5 (encL (Nd.kids (Prod.snd i2)))]] ∧ hpL [] = hpL []) ∧ ((!sameS (Prod.fst i2) (Prod.snd i2)) = true → Wk (b0 false) (b0 r) ∧ SameH (hpL []) (hpL [])) ∧ ((!sameS (Prod.fst i2) (Prod.snd i2)) = false → Yt (decide ((2 : Int) < z1) = false ∧ Wk (b0 true) (b0 r) ∧ SameH (hpL []) (hpL []))))))) ∧ (z2 = false → Nf4 (Wk (b0 false) (b0 r) ∧ SameH (hpL []) (hpL []))))) ∧ ((m == m2) = false → Nf4 (Nf4 (Nf (Wk (b0 false) (b0 r) ∧ SameH (hpL []) (hpL []))))))) ∧ ((k == k2) = false → Nf4 (Nf4 (Nf4 (Nf (Nf (Wk (b0 false) (b0 r) ∧ SameH (hpL []) (hpL [])))))))) := by kernel_rfl
theorem gNsN_vc (a m : Int) (t : ByteArray) (ks : List AV) : gNsN (Orc.t Orc.z) a m t ks = (Yt (Wk (AV.lst true 5 [AV.agg [i0 (1 : Int), i0 a, i0 (0 : Int), s0 t, AV.lit (Value.slice none 0 0)]]) (AV.lst false 5 [AV.agg [i0 (1 : Int), i0 a, i0 (0 : Int), s0 t, AV.lst false 5 []]]) ∧ SameH (hpL []) (hpL []))) := by kernel_rfl
theorem gNs0_vc (k a m : Int) (t : ByteArray) : gNs0 (Orc.f (Orc.f Orc.z)) k a m t = ((k == (1 : Int)) = false ∧ Nf (Wk (AV.lit (Value.slice none 0 0)) (AV.lst false 5 []) ∧ SameH (hpL []) (hpL []))) := by kernel_rfl
theorem gNs1_vc (P : Nd → Prop) (k a m : Int) (t : ByteArray) (x : Nd) : gNs1 (Orc.f (Orc.t (Orc.f Orc.z))) P k a m t x = ((k == (1 : Int)) = false ∧ decide ((0 : Int) < (↑(List.length [encP x]) : Int)) = true ∧ ∃ (i1 : Nd), (P i1 ∧ Wks [encP x] [encP i1] ∧ hpL [] = hpL []) ∧ decide (List.length (encL (namesS i1)) * 64 ≤ 140737488355328 ∧ List.length (encL (namesS i1)) ≤ 1152921504606846976) = true ∧ Yt (decide ((1 : Int) < (↑(List.length [encP x]) : Int)) = false ∧ 0 + List.length (encL (namesS i1)) ≤ List.length (encL (namesS i1)) ∧ Wk (AV.lst false 5 (List.take (List.length (encL (namesS i1))) (List.drop 0 (encL (namesS i1))))) (AV.lst false 5 (encL (namesS x))) ∧ SameH (hpL []) (hpL []))) := by kernel_rfl
def ogNs2 : Orc := Orc.f (Orc.t (Orc.t (Orc.f Orc.z)))
theorem gNs2_vc (P : Nd → Prop) (k a m : Int) (t : ByteArray) (x y : Nd) : gNs2 ogNs2 P k a m t x y = (let z1 := (↑(List.length [encP x, encP y]) : Int); (k == (1 : Int)) = false ∧ decide ((0 : Int) < z1) = true ∧ ∃ (i1 : Nd), (P i1 ∧ Wks [encP x] [encP i1] ∧ hpL [] = hpL []) ∧ decide (List.length (encL (namesS i1)) * 64 ≤ 140737488355328 ∧ List.length (encL (namesS i1)) ≤ 1152921504606846976) = true ∧ Yt (decide ((1 : Int) < z1) = true ∧ ∃ (i2 : Nd), (P i2 ∧ Wks [encP y] [encP i2] ∧ hpL [] = hpL []) ∧ (true && (Nat.beq 5 5 && Nat.ble (0 + List.length (encL (namesS i1))) (List.length (encL (namesS i1)))) && (Nat.beq 5 5 && decide (List.length (List.take (List.length (encL (namesS i1))) (List.drop 0 (encL (namesS i1))) ++ encL (namesS i2)) * 64 ≤ 140737488355328 ∧ List.length (List.take (List.length (encL (namesS i1))) (List.drop 0 (encL (namesS i1))) ++ encL (namesS i2)) ≤ 1152921504606846976))) = true ∧ Yt (decide ((2 : Int) < z1) = false ∧ 0 + List.length (List.take (List.length (encL (namesS i1))) (List.drop 0 (encL (namesS i1))) ++ encL (namesS i2)) ≤ List.length (List.take (List.length (encL (namesS i1))) (List.drop 0 (encL (namesS i1))) ++ encL (namesS i2)) ∧ Wk (AV.lst false 5 (List.take (List.length (List.take (List.length (encL (namesS i1))) (List.drop 0 (encL (namesS i1))) ++ encL (namesS i2))) (List.drop 0 (List.take (List.length (encL (namesS i1))) (List.drop 0 (encL (namesS i1))) ++ encL (namesS i2))))) (AV.lst false 5 (encL (namesS x) ++ encL (namesS y))) ∧ SameH (hpL []) (hpL [])))) := by kernel_rfl
end Go.Proofs.YtpofhijgccocpaaGreatDoor
end
section
namespace Go.TP
open Go.AS
mutual
/-- Leaves. -/
def leafS : Nd → Nat
 | .mk _ _ _ _ ks => leafL ks
def leafL : List Nd → Nat
 | [] => 1
 | n :: r => leafS n + match r with
  | [] => 0
  | _ :: _ => leafL r
end
theorem leaf_nil {k a n : Int} {t : ByteArray} : leafS (.mk k a n t []) = 1 := rfl
theorem leaf_one {k a n : Int} {t : ByteArray} {x : Nd} : leafS (.mk k a n t [x]) = leafS x := by rw [leafS, leafL]; rfl
theorem leaf_two {k a n : Int} {t : ByteArray} {x y : Nd} : leafS (.mk k a n t [x, y]) = leafS x + leafS y := by
 rw [leafS, leafL, leafL]; rfl
/-- Leaves and the tokens that are left. -/
def Lf (ts : List Tk) (r : R) : Prop := leafS r.n + r.ts.length ≤ ts.length + 1
theorem take_len {ts : List Tk} (h : okT ts) (hk : (headT ts).kind ≠ 11) : (takeT ts).length + 1 = ts.length := by
 cases ts with
 | nil => exact h.elim
 | cons t r => have hk : t.kind ≠ 11 := hk; rw [takeT_cons hk]; rfl
theorem chain_lf {part : List Tk → R} (hp : ∀ ts, okT ts → Inv ts (part ts)) (hq : ∀ ts, okT ts → Lf ts (part ts)) (km : Int → Int) (h11 : km 11 = 0) : ∀ (n : Nat) (r : R) (ts : List Tk), okT r.ts → Lf ts r → Lf ts (chainS part km n r)
 | 0, r, ts, _, h => by rw [chainS]; exact h
 | n + 1, r, ts, h, hn => by
  rw [chainS]
  split
  · rename_i hc
    have h1 := takeT_ok h
    have h2 := hq _ h1.1
    have h3 := take_len h (fun e => hc.2 (by rw [e, h11]))
    refine chain_lf hp hq km h11 n ⟨.mk (km (headT r.ts).kind) (headT r.ts).at_ 0 ByteArray.empty [r.n, (part (takeT r.ts)).n], (part (takeT r.ts)).e, (part (takeT r.ts)).ts⟩ ts (hp _ h1.1).1 ?_
    unfold Lf at hn h2 ⊢
    rw [leaf_two]
    show leafS r.n + leafS (part (takeT r.ts)).n + (part (takeT r.ts)).ts.length ≤ _
    omega
  · exact hn
theorem within_lf {d : Int} {t : Tk} {n0 : Nd} {ts us : List Tk} {f : Int → List Tk → R} (h : leafS n0 + us.length ≤ ts.length + 1) (hf : Lf ts (f (d + 1) us)) : Lf ts (withinS d t n0 us f) := by
 unfold withinS
 split
 · exact h
 · exact hf
theorem Lf.of {ts us : List Tk} {r : R} (h : Lf us r) (hl : us.length ≤ ts.length) : Lf ts r := by unfold Lf at *; omega
theorem lfq {ts us : List Tk} {n : Nd} {e : Option (Int × Int)} (h : leafS n + us.length ≤ ts.length + 1) : Lf ts ⟨n, e, us⟩ := h
theorem lfz {ts us : List Tk} {k a n : Int} {t : ByteArray} {e : Option (Int × Int)} (h : us.length ≤ ts.length) : Lf ts ⟨.mk k a n t [], e, us⟩ := lfq (by rw [leaf_nil]; omega)
theorem lfZ {ts us : List Tk} {e : Option (Int × Int)} (h : us.length ≤ ts.length) : Lf ts ⟨.zero, e, us⟩ := lfz h
theorem lf1 {ts us : List Tk} {k a n : Int} {t : ByteArray} {x : Nd} {e : Option (Int × Int)} (h : leafS x + us.length ≤ ts.length + 1) : Lf ts ⟨.mk k a n t [x], e, us⟩ := by
 unfold Lf; rw [leaf_one]; exact h
theorem PF_lf : ∀ (f : Nat) (lv : Lv) (d : Int) (ts : List Tk), okT ts → Lf ts (PF f lv d ts)
 | 0, _, _, ts, h => by rw [PF]; exact Nat.le_of_eq (Nat.add_comm _ _)
 | f + 1, .expr, d, ts, h => by
  rw [PF]
  exact chain_lf (fun us hu => PF_inv f .term d us hu) (fun us hu => PF_lf f .term d us hu) kmE rfl f _ ts (PF_inv f .term d ts h).1 (PF_lf f .term d ts h)
 | f + 1, .term, d, ts, h => by
  rw [PF]
  exact chain_lf (fun us hu => PF_inv f .part d us hu) (fun us hu => PF_lf f .part d us hu) kmT rfl f _ ts (PF_inv f .part d ts h).1 (PF_lf f .part d ts h)
 | f + 1, .part, d, ts, h => by
  rw [PF]
  simp only
  split
  · exact PF_lf f .ranged d ts h
  · have h1 := takeT_ok h
    refine within_lf (by rw [leaf_nil]; omega) (lf1 ?_)
    have := PF_lf f .part (d + 1) _ h1.1
    unfold Lf at this; omega
 | f + 1, .ranged, d, ts, h => by
  rw [PF]
  simp only
  have h1 := takeT_ok h
  split
  · refine within_lf (by rw [leaf_nil]; omega) (lf1 ?_)
    have := PF_lf f .atom (d + 1) _ h1.1
    unfold Lf at this; omega
  · have h2 := PF_lf f .atom d ts h
    have i2 := PF_inv f .atom d ts h
    have second : ∀ (d : Int) (us : List Tk) (k a : Int) (n : Nd) (m : Bool), okT us → leafS n + us.length ≤ ts.length → Lf ts (secondS (PF f .atom d) k a n m us) := fun d us k a n m hu hn => by
      unfold secondS
      split
      · exact lf1 (by omega)
      · have := PF_lf f .atom d us hu
        unfold Lf at this ⊢
        rw [leaf_two]
        show leafS n + leafS (PF f .atom d us).n + (PF f .atom d us).ts.length ≤ _
        omega
    have h3 := takeT_ok i2.1
    split
    · exact h2
    · split
      · rename_i hk
        have h4 := take_len i2.1 (by rw [hk]; decide)
        unfold Lf at h2
        exact within_lf (by rw [leaf_one]; omega) (second _ _ _ _ _ _ h3.1 (by omega))
      · split
        · rename_i hk
          have h4 := take_len i2.1 (by rw [hk]; decide)
          unfold Lf at h2
          exact second _ _ _ _ _ _ h3.1 (by omega)
        · exact h2
 | f + 1, .atom, d, ts, h => by
  rw [PF]
  simp only
  have h1 := takeT_ok h
  have h3 := takeT_ok h1.1
  split
  · refine within_lf (show 1 + _ ≤ _ by omega) ?_
    have h2 := PF_lf f .expr (d + 1) _ h1.1
    have i2 := PF_inv f .expr (d + 1) _ h1.1
    split
    · exact h2.of h1.2
    · have h4 := expect_inv (k := 3) i2.1
      unfold Lf at h2
      exact lfq (by omega)
  · split
    · split
      · unfold callS
        simp only
        split
        · exact lfZ h1.2
        · refine within_lf (show 1 + _ ≤ _ by omega) ?_
          have l3 := Nat.le_trans h3.2 h1.2
          split
          · have h4 := expect_inv (k := 3) h3.1
            exact lfz (by omega)
          · have h2 := PF_lf f .expr (d + 1) _ h3.1
            have i2 := PF_inv f .expr (d + 1) _ h3.1
            unfold Lf at h2
            split
            · exact lf1 (by omega)
            · split
              · have h4 := expect_inv (k := 3) i2.1
                exact lf1 (by omega)
              · have h4 := expect_inv (k := 4) i2.1
                split
                · exact lf1 (by omega)
                · split
                  · exact lf1 (by omega)
                  · have h5 := takeT_ok h4.1
                    have h6 := expect_inv (k := 3) h5.1
                    exact lf1 (by omega)
      · split
        · exact lfz h1.2
        · exact lfZ h1.2
    · exact lfZ (Nat.le_refl _)
theorem leafS_pos : ∀ n : Nd, 1 ≤ leafS n := fun n => by
 refine Nd.rec (motive_1 := fun n => 1 ≤ leafS n) (motive_2 := fun l => 1 ≤ leafL l) ?_ ?_ ?_ n
 · intro k a m t ks ih; rw [leafS]; exact ih
 · exact Nat.le_refl _
 · intro x r h1 h2
   cases r with
   | nil => exact h1
   | cons y r => show 1 ≤ leafS x + leafL (y :: r); omega
theorem names_leaf (n : Nd) : (namesS n).length ≤ leafS n := by
 refine Nd.rec (motive_1 := fun n => (namesS n).length ≤ leafS n) (motive_2 := fun l => (namesL l).length ≤ leafL l ∧ (namesL l).length ≤ leafL l) ?_ ?_ ?_ n
 · intro k a m t ks ih
   have := leafS_pos (.mk k a m t ks)
   rw [namesS]
   split
   · exact this
   · rw [leafS]; exact ih.1
 · exact ⟨Nat.zero_le _, Nat.zero_le _⟩
 · intro x r h1 h2
   have e : (namesL (x :: r)).length ≤ leafL (x :: r) := by
     rw [namesL, List.length_append]
     cases r with
     | nil => show (namesS x).length + 0 ≤ leafS x + 0; omega
     | cons y r => have := h2.1; show _ ≤ leafS x + leafL (y :: r); omega
   exact ⟨e, e⟩
end Go.TP
end
section
namespace Go.Proofs.YtpofhijgccocpaaGreatDoor
open Go.AS Go.TP
noncomputable section
theorem form_le (t : ByteArray) : 0 ≤ formS t ∧ formS t ≤ 3 := by
 unfold formS
 split
 · decide
 · split
   · decide
   · split <;> decide
theorem XR0_ok : XR0.Sound := (XB_ok.add (conOk1 (s := spFormR) fun w _ => form_ok w)).add (conOk1 (s := spPreR) fun w h => isPrefix_ok w h)
theorem eqT {a b : Int} (h : (a == b) = true) : a = b := eq_of_beq h
theorem eqF {a b : Int} (h : (a == b) = false) : a ≠ b := beq_eq_false_iff_ne.1 h
theorem gKids_ok (k a m : Int) (t : ByteArray) (ks : List AV) : gKids ogKids k a m t ks (kidsN k t) := by
 rw [gKids_vc]
 refine ⟨fun h => ?_, fun h1 => ⟨fun h => ?_, fun h2 => ⟨fun h => ?_, fun h3 => ⟨fun h => ?_, fun h4 => ⟨fun h => ?_, fun h5 => ⟨fun h => ?_, fun h6 => ⟨fun h => ?_, fun h7 => ⟨fun h => ?_, fun h8 => ⟨fun h => ?_, fun h9 => ⟨fun h => ?_, fun h10 => ?_⟩⟩⟩⟩⟩⟩⟩⟩⟩⟩
 · obtain rfl := eqT h; exact ⟨rfl, .refl _, .rfl⟩
 · obtain rfl := eqT h; exact ⟨rfl, .refl _, .rfl⟩
 · obtain rfl := eqT h; exact ⟨rfl, .refl _, .rfl⟩
 · obtain rfl := eqT h; exact ⟨rfl, .refl _, .rfl⟩
 · obtain rfl := eqT h; exact ⟨.refl _, .rfl⟩
 · obtain rfl := eqT h; exact ⟨rfl, .refl _, .rfl⟩
 · obtain rfl := eqT h; exact ⟨rfl, .refl _, .rfl⟩
 · obtain rfl := eqT h; exact ⟨.refl _, .rfl⟩
 · obtain rfl := eqT h; exact ⟨.refl _, .rfl⟩
 · obtain rfl := eqT h
   have hf := form_le t
   refine ⟨t, ⟨trivial, .refl _, rfl⟩, inR_i64 (by omega) (by omega), .of_eq ?_, .rfl⟩
   have e : kidsN 10 t = if formS t - 1 < 1 then formS t - 1 else 1 := rfl
   rw [e]
   by_cases h : formS t - 1 < 1
   · rw [if_pos h, if_neg (by omega)]
   · rw [if_neg h]
     by_cases g : 1 < formS t - 1
     · rw [if_pos g]
     · rw [if_neg g, show formS t - 1 = 1 by omega]
 · have := eqF h1; have := eqF h2; have := eqF h3; have := eqF h4; have := eqF h5; have := eqF h6; have := eqF h7; have := eqF h8; have := eqF h9; have := eqF h10
   have e : kidsN k t = -1 := by unfold kidsN; rw [if_neg (by omega), if_neg (by omega), if_neg (by omega), if_neg (by omega)]
   rw [e]; exact ⟨.refl _, .rfl⟩
set_option maxRecDepth 100000 in
theorem kids_ok (k a m : Int) (t : ByteArray) (ks : List AV) : F fKids [ndV k a m t ks] (i0 (kidsN k t)) := F_ok XR0_ok rfl (by kernel_rfl) (by kernel_rfl) (by kernel_rfl) (gKids_ok k a m t ks)
theorem notT {b : Bool} (h : (!b) = true) : b = false := by cases b <;> first | rfl | cases h
theorem notF {b : Bool} (h : (!b) = false) : b = true := by cases b <;> first | rfl | cases h
theorem beqD (a b : Int) : (a == b) = decide (a = b) := by
 by_cases h : a = b
 · rw [decide_eq_true h, beq_iff_eq.2 h]
 · rw [decide_eq_false h, beq_eq_false_iff_ne.2 h]
theorem gNamed_ok (k a m : Int) (t : ByteArray) (ks : List AV) (ht : t.size ≤ 1000000) : gNamed ogNamed k a m t ks (namedS k m t) := by
 rw [gNamed_vc]
 have e0 : (ByteArray.toList t == ByteArray.toList { data := { toList := [] } }) = decide (t = ByteArray.empty) := strEq' t ⟨⟨[]⟩⟩
 refine ⟨fun h => ?_, fun h1 => ⟨fun h => ?_, fun h2 => ⟨fun h => ?_, fun h => ?_⟩⟩⟩
 · obtain rfl := eqT h
   have e : namedS 1 m t = (isPrefixS t && decide (m = 0)) := rfl
   rw [e]
   refine ⟨t, ⟨ht, .refl _, rfl⟩, fun h => ⟨rfl, rfl, ?_, .rfl⟩, fun h => ⟨rfl, rfl, ?_, .rfl⟩⟩
   · rw [h, beqD]; exact .refl _
   · rw [h]; exact .refl _
 · obtain rfl := eqT h
   have e : namedS 10 m t = (decide (m = 0) || (decide (formS t = 3) && (decide (0 < m) && decide (m ≤ 999999)))) := rfl
   rw [e]
   refine ⟨fun h => ⟨rfl, rfl, rfl, rfl, rfl, rfl, rfl, ?_, .rfl⟩, fun h0 => ⟨rfl, rfl, t, ⟨trivial, .refl _, rfl⟩, rfl, rfl, fun h => ⟨rfl, rfl, rfl, rfl, fun g => ⟨rfl, rfl, rfl, ?_, .rfl⟩, fun g => ⟨rfl, rfl, rfl, ?_, .rfl⟩⟩, fun h => ⟨rfl, rfl, rfl, rfl, rfl, rfl, rfl, rfl, ?_, .rfl⟩⟩⟩
   · rw [decide_eq_true (eqT h)]; exact .refl _
   · rw [decide_eq_false (eqF h0), decide_eq_true (eqT h), decide_eq_true (of_decide_eq_true g : 0 < m)]; exact .refl _
   · rw [decide_eq_false (eqF h0), decide_eq_true (eqT h), decide_eq_false (of_decide_eq_false g : ¬ 0 < m)]; exact .refl _
   · rw [decide_eq_false (eqF h0), decide_eq_false (eqF h)]; exact .refl _
 · rw [e0] at h
   have e : namedS k m t = (decide (t = ByteArray.empty) && decide (m = 0)) := by unfold namedS; rw [if_neg (eqF h1), if_neg (eqF h2)]
   rw [e, h, beqD]; exact ⟨rfl, rfl, .refl _, .rfl⟩
 · rw [e0] at h
   have e : namedS k m t = (decide (t = ByteArray.empty) && decide (m = 0)) := by unfold namedS; rw [if_neg (eqF h1), if_neg (eqF h2)]
   rw [e, h]; exact ⟨rfl, rfl, .refl _, .rfl⟩
set_option maxRecDepth 100000 in
theorem named_ok (k a m : Int) (t : ByteArray) (ks : List AV) (ht : t.size ≤ 1000000) : F fNamed [ndV k a m t ks] (b0 (namedS k m t)) := F_ok XR0_ok rfl (by kernel_rfl) (by kernel_rfl) (by kernel_rfl) (gNamed_ok k a m t ks ht)
theorem XR1_ok : XR1.Sound := (XR0_ok.add (conOk1 (s := spKidsR) fun v _ => kids_ok v.k v.a v.m v.t v.ks)).add (conOk1 (s := spNamedR) fun v h => named_ok v.k v.a v.m v.t v.ks h)
/-! right trees -/
abbrev FRight (n : Nd) : Prop := F fRight [encP n] (b0 (rightS n))
set_option maxRecDepth 100000 in
theorem riFn {X : WX} (hX : X.Sound) (hp : X.px = X0) {os : Orc} {k a m : Int} {t : ByteArray} {ks : List AV} {r : Bool} (g : gRi X os k a m t ks r) : F fRight [ndV k a m t ks] (b0 r) := F_ok hX hp (by kernel_rfl) (by kernel_rfl) (by kernel_rfl) g
theorem encL_length : ∀ l : List Nd, (encL l).length = l.length
 | [] => rfl
 | _ :: r => by rw [encL, List.length_cons, List.length_cons, encL_length r]
theorem gRiA_ok (k a m : Int) (t : ByteArray) (ks : List AV) (h : kidsN k t < 0) : gRiA ogRiA k a m t ks := by
 rw [gRiA_vc]; exact ⟨⟨k, a, m, t, ks⟩, ⟨trivial, .refl _, rfl⟩, decide_eq_true h, by exact ex_go⟩
theorem gRiB_ok (k a m : Int) (t : ByteArray) (ks : List AV) (h : ¬ kidsN k t < 0) (h2 : kidsN k t ≠ ks.length) : gRiB ogRiB k a m t ks := by
 rw [gRiB_vc]; exact ⟨⟨k, a, m, t, ks⟩, ⟨trivial, .refl _, rfl⟩, decide_eq_false h, rfl, rfl, rfl, rfl, bne_iff_ne.2 h2, rfl, rfl, rfl, .refl _, .rfl⟩
theorem bneF {a b : Int} (h : a = b) : (a != b) = false := by rw [h]; exact bne_self_eq_false b
theorem gRiC_ok (k a m : Int) (t : ByteArray) (ks : List AV) (ht : t.size ≤ 1000000) (h : ¬ kidsN k t < 0) (h2 : kidsN k t = ks.length) (h3 : namedS k m t = false) : gRiC ogRiC k a m t ks := by
 rw [gRiC_vc]; exact ⟨⟨k, a, m, t, ks⟩, ⟨trivial, .refl _, rfl⟩, decide_eq_false h, rfl, rfl, rfl, rfl, bneF h2, rfl, ⟨k, a, m, t, ks⟩, ⟨ht, .refl _, rfl⟩, rfl, by rw [h3]; rfl, .refl _, .rfl⟩
theorem gRi0_ok (k a m : Int) (t : ByteArray) (ht : t.size ≤ 1000000) (h2 : kidsN k t = 0) (h3 : namedS k m t = true) : gRi0 ogRi0 k a m t := by
 rw [gRi0_vc]; exact ⟨⟨k, a, m, t, []⟩, ⟨trivial, .refl _, rfl⟩, decide_eq_false (by show ¬ kidsN k t < 0; omega), rfl, rfl, rfl, rfl, bneF h2, rfl, ⟨k, a, m, t, []⟩, ⟨ht, .refl _, rfl⟩, rfl, by rw [h3]; rfl, rfl, .refl _, .rfl⟩
theorem gRi1_ok (k a m : Int) (t : ByteArray) (x : Nd) (ht : t.size ≤ 1000000) (h2 : kidsN k t = 1) (h3 : namedS k m t = true) : gRi1 ogRi1 (fun n => n = x) k a m t x (rightS x && true) := by
 rw [gRi1_vc]
 refine ⟨⟨k, a, m, t, [encP x]⟩, ⟨trivial, .refl _, rfl⟩, decide_eq_false (by show ¬ kidsN k t < 0; omega), rfl, rfl, rfl, rfl, bneF h2, rfl, ⟨k, a, m, t, [encP x]⟩, ⟨ht, .refl _, rfl⟩, rfl, by rw [h3]; rfl, decide_eq_true (by show (0 : Int) < 1; decide), x, ⟨rfl, .refl _, rfl⟩, fun h => ⟨?_, .rfl⟩, fun h => ⟨rfl, decide_eq_false (by show ¬ (1 : Int) < 1; decide), ?_, .rfl⟩⟩
 · rw [notT h]; exact .refl _
 · rw [notF h]; exact .refl _
theorem gRi2_ok (k a m : Int) (t : ByteArray) (x y : Nd) (ht : t.size ≤ 1000000) (h2 : kidsN k t = 2) (h3 : namedS k m t = true) : gRi2 ogRi2 (fun n => n = x ∨ n = y) k a m t x y (rightS x && (rightS y && true)) := by
 rw [gRi2_vc]
 refine ⟨⟨k, a, m, t, [encP x, encP y]⟩, ⟨trivial, .refl _, rfl⟩, decide_eq_false (by show ¬ kidsN k t < 0; omega), rfl, rfl, rfl, rfl, bneF h2, rfl, ⟨k, a, m, t, [encP x, encP y]⟩, ⟨ht, .refl _, rfl⟩, rfl, by rw [h3]; rfl, decide_eq_true (by show (0 : Int) < 2; decide), x, ⟨.inl rfl, .refl _, rfl⟩, fun h => ⟨?_, .rfl⟩, fun h => ⟨rfl, decide_eq_true (by show (1 : Int) < 2; decide), y, ⟨.inr rfl, .refl _, rfl⟩, fun g => ⟨?_, .rfl⟩, fun g => ⟨rfl, decide_eq_false (by show ¬ (2 : Int) < 2; decide), ?_, .rfl⟩⟩⟩
 · rw [notT h]; exact .refl _
 · rw [notF h, notT g]; exact .refl _
 · rw [notF h, notF g]; exact .refl _
theorem kids_le (k : Int) (t : ByteArray) : kidsN k t ≤ 2 := by
 unfold kidsN
 split
 · decide
 · split
   · decide
   · split
     · decide
     · split
       · split <;> omega
       · decide
theorem right_bad {k a m : Int} {t : ByteArray} {ks : List Nd} (h : shapeS k m t ks.length = false) : rightS (.mk k a m t ks) = false := by rw [rightS, h]; rfl
set_option maxRecDepth 100000 in
theorem rightStep (k a m : Int) (t : ByteArray) (ks : List Nd) (ht : t.size ≤ 600) (ih : ∀ x ∈ ks, FRight x) : FRight (.mk k a m t ks) := by
 show F fRight [ndV k a m t (encL ks)] _
 by_cases h : kidsN k t < 0
 · have e : rightS (.mk k a m t ks) = false := right_bad (by unfold shapeS; rw [decide_eq_false (by omega)]; rfl)
   rw [e]; exact riFn XR1_ok rfl (gRiA_ok k a m t _ h)
 by_cases h2 : kidsN k t = ks.length
 · cases h3 : namedS k m t with
   | false =>
     have e : rightS (.mk k a m t ks) = false := right_bad (by unfold shapeS; rw [h3, Bool.and_false, Bool.and_false])
     rw [e]; exact riFn XR1_ok rfl (gRiC_ok k a m t _ (by omega) h (by rw [encL_length]; exact h2) h3)
   | true =>
     have e : rightS (.mk k a m t ks) = rightL ks := by
       rw [rightS]; unfold shapeS; rw [h3, decide_eq_true (by omega), decide_eq_true h2]; rfl
     rw [e]
     have hl := kids_le k t
     match ks, ih with
     | [], _ => exact riFn XR1_ok rfl (gRi0_ok k a m t (by omega) h2 h3)
     | [x], ih =>
       rw [encL_one]
       exact riFn (X := XR1.add fRight (Sp.con [spRight fun n => n = x])) (XR1_ok.add (conOk1 (s := spRight fun n => n = x) fun n (hn : n = x) => by rw [hn]; exact ih x (List.mem_cons_self ..))) rfl (gRi1_ok k a m t x (by omega) h2 h3)
     | [x, y], ih =>
       rw [encL_two]
       exact riFn (X := XR1.add fRight (Sp.con [spRight fun n => n = x ∨ n = y])) (XR1_ok.add (conOk1 (s := spRight fun n => n = x ∨ n = y) fun n (hn : n = x ∨ n = y) => ih n (by rcases hn with hn | hn <;> simp [hn]))) rfl (gRi2_ok k a m t x y (by omega) h2 h3)
     | x :: y :: z :: r, _ => rw [List.length_cons, List.length_cons, List.length_cons] at h2; omega
 · have e : rightS (.mk k a m t ks) = false := right_bad (by unfold shapeS; rw [decide_eq_false h2, Bool.false_and, Bool.and_false])
   rw [e]; exact riFn XR1_ok rfl (gRiB_ok k a m t _ h (by rw [encL_length]; exact h2))
theorem right_ok (n : Nd) : fineS n → FRight n := by
 refine Nd.rec (motive_1 := fun n => fineS n → FRight n) (motive_2 := fun l => fineL l → ∀ x ∈ l, FRight x) ?_ ?_ ?_ n
 · intro k a m t ks ih h; exact rightStep k a m t ks h.1 (ih h.2)
 · intro _ x hx; cases hx
 · intro x l i1 i2 h y hy
   rcases List.mem_cons.1 hy with rfl | hy
   · exact i1 h.1
   · exact i2 h.2 y hy
end
end Go.Proofs.YtpofhijgccocpaaGreatDoor
end
section
namespace Go.Proofs.YtpofhijgccocpaaGreatDoor
open Go.AS Go.TP
noncomputable section
abbrev FSame (a b : Nd) : Prop := F fSame [encP a, encP b] (b0 (sameS a b))
set_option maxRecDepth 100000 in
theorem saFn {X : WX} (hX : X.Sound) (hp : X.px = X0) {os : Orc} {k a m : Int} {t : ByteArray} {ks : List AV} {k2 a2 m2 : Int} {t2 : ByteArray} {ks2 : List AV} {r : Bool} (g : gSa X os k a m t ks k2 a2 m2 t2 ks2 r) : F fSame [ndV k a m t ks, ndV k2 a2 m2 t2 ks2] (b0 r) := F_ok hX hp (by kernel_rfl) (by kernel_rfl) (by kernel_rfl) g
theorem seF {t : ByteArray} (h : (ByteArray.toList t == ByteArray.toList t) = false) : False := by rw [strEq'] at h; exact of_decide_eq_false h rfl
theorem gSaK_ok (k a m : Int) (t : ByteArray) (ks : List AV) (k2 a2 m2 : Int) (t2 : ByteArray) (ks2 : List AV) (h : k ≠ k2) : gSaK ogSaK k a m t ks k2 a2 m2 t2 ks2 := by
 rw [gSaK_vc]; exact ⟨beq_eq_false_iff_ne.2 h, by exact ex_go⟩
theorem gSaM_ok (k a m : Int) (t : ByteArray) (ks : List AV) (a2 m2 : Int) (t2 : ByteArray) (ks2 : List AV) (h : m ≠ m2) : gSaM ogSaM k a m t ks k a2 m2 t2 ks2 := by
 rw [gSaM_vc]; exact ex_go
theorem gSaT_ok (k a m : Int) (t : ByteArray) (ks : List AV) (a2 : Int) (t2 : ByteArray) (ks2 : List AV) (h : t ≠ t2) : gSaT ogSaT k a m t ks k a2 m t2 ks2 := by
 rw [gSaT_vc, strEq', decide_eq_false h]; exact ex_go
theorem gSaL_ok (k a m : Int) (t : ByteArray) (ks : List AV) (a2 : Int) (ks2 : List AV) (h : ks.length ≠ ks2.length) : gSaL ogSaL k a m t ks k a2 m t ks2 := by
 have e : ((ks.length : Int) != (ks2.length : Int)) = true := bne_iff_ne.2 (by omega)
 rw [gSaL_vc, strEq', decide_eq_true rfl, e]; exact ex_go
theorem gSa0_ok (k a m : Int) (t : ByteArray) (a2 : Int) : gSa0 ogSa0 k a m t k a2 m t true := by
 rw [gSa0_vc]
 refine ⟨fun _ => ⟨rfl, rfl, rfl, rfl, fun _ => ⟨rfl, rfl, rfl, rfl, fun _ => ?_, fun h => (seF h).elim⟩, fun h => (eqF h rfl).elim⟩, fun h => (eqF h rfl).elim⟩
 exact ex_go
theorem gSa1_ok (k a m : Int) (t : ByteArray) (a2 : Int) (x x2 : Nd) : gSa1 ogSa1 (fun p q => p = x ∧ q = x2) k a m t k a2 m t x x2 (sameS x x2 && true) := by
 rw [gSa1_vc]
 refine ⟨fun _ => ⟨rfl, rfl, rfl, rfl, fun _ => ⟨rfl, rfl, rfl, rfl, fun _ => ⟨rfl, rfl, rfl, rfl, bneF rfl, decide_eq_true (by show (0 : Int) < 1; decide), (x, x2), ⟨⟨rfl, rfl⟩, .refl _, rfl⟩, fun h => ⟨?_, .rfl⟩, fun h => ⟨rfl, decide_eq_false (by show ¬ (1 : Int) < 1; decide), ?_, .rfl⟩⟩, fun h => (seF h).elim⟩, fun h => (eqF h rfl).elim⟩, fun h => (eqF h rfl).elim⟩
 · rw [notT h]; exact .refl _
 · rw [notF h]; exact .refl _
theorem gSa2_ok (k a m : Int) (t : ByteArray) (a2 : Int) (x y x2 y2 : Nd) : gSa2 ogSa2 (fun p q => (p = x ∧ q = x2) ∨ (p = y ∧ q = y2)) k a m t k a2 m t x y x2 y2 (sameS x x2 && (sameS y y2 && true)) := by
 rw [gSa2_vc]
 refine ⟨fun _ => ⟨rfl, rfl, rfl, rfl, fun _ => ⟨rfl, rfl, rfl, rfl, fun _ => ⟨rfl, rfl, rfl, rfl, bneF rfl, decide_eq_true (by show (0 : Int) < 2; decide), (x, x2), ⟨.inl ⟨rfl, rfl⟩, .refl _, rfl⟩, fun h => ⟨?_, .rfl⟩, fun h => ⟨rfl, decide_eq_true (by show (1 : Int) < 2; decide), (y, y2), ⟨.inr ⟨rfl, rfl⟩, .refl _, rfl⟩, fun g => ⟨?_, .rfl⟩, fun g => ⟨rfl, decide_eq_false (by show ¬ (2 : Int) < 2; decide), ?_, .rfl⟩⟩⟩, fun h => (seF h).elim⟩, fun h => (eqF h rfl).elim⟩, fun h => (eqF h rfl).elim⟩
 · rw [notT h]; exact .refl _
 · rw [notF h, notT g]; exact .refl _
 · rw [notF h, notF g]; exact .refl _
theorem same_mk (k a m : Int) (t : ByteArray) (ks : List Nd) (k2 a2 m2 : Int) (t2 : ByteArray) (ks2 : List Nd) : sameS (.mk k a m t ks) (.mk k2 a2 m2 t2 ks2) = (decide (k = k2) && (decide (m = m2) && (decide (t = t2) && (decide (ks.length = ks2.length) && sameL ks ks2)))) := by rw [sameS]; rfl
theorem right_len {k a m : Int} {t : ByteArray} {ks : List Nd} (h : rightS (.mk k a m t ks) = true) : ks.length ≤ 2 := by
 have := (kids_kind h).1
 have := kids_le k t
 omega
set_option maxRecDepth 100000 in
theorem sameStep (k a m : Int) (t : ByteArray) (ks : List Nd) (hr : rightS (.mk k a m t ks) = true) (ih : ∀ x ∈ ks, ∀ b, rightS x = true → rightS b = true → FSame x b) (b : Nd) (hb : rightS b = true) : FSame (.mk k a m t ks) b := by
 obtain ⟨k2, a2, m2, t2, ks2⟩ := b
 rw [FSame, same_mk]
 show F fSame [ndV k a m t (encL ks), ndV k2 a2 m2 t2 (encL ks2)] _
 by_cases hk : k = k2
 rotate_left
 · rw [decide_eq_false hk]; exact saFn XB_ok rfl (gSaK_ok k a m t _ k2 a2 m2 t2 _ hk)
 by_cases hm : m = m2
 rotate_left
 · subst hk; rw [decide_eq_true rfl, decide_eq_false hm]; exact saFn XB_ok rfl (gSaM_ok k a m t _ a2 m2 t2 _ hm)
 by_cases ht : t = t2
 rotate_left
 · subst hk; subst hm; rw [decide_eq_true rfl, decide_eq_true rfl, decide_eq_false ht]; exact saFn XB_ok rfl (gSaT_ok k a m t _ a2 t2 _ ht)
 subst hk; subst hm; subst ht
 rw [decide_eq_true rfl, decide_eq_true rfl, decide_eq_true rfl]
 by_cases hl : ks.length = ks2.length
 rotate_left
 · rw [decide_eq_false hl]; exact saFn XB_ok rfl (gSaL_ok k a m t _ a2 _ (by rw [encL_length, encL_length]; exact hl))
 rw [decide_eq_true hl]
 show F fSame _ (b0 (sameL ks ks2))
 have h2 := right_len hr
 have r1 := (kids_kind hr).2.2
 have r2 := (kids_kind hb).2.2
 match ks, ks2, hl, h2, ih, r1, r2 with
 | [], [], _, _, _, _, _ => exact saFn XB_ok rfl (gSa0_ok k a m t a2)
 | [x], [x2], _, _, ih, r1, r2 =>
  rw [encL_one, encL_one]
  exact saFn (X := XB.add fSame (Sp.con [spSame fun p q => p = x ∧ q = x2])) (XB_ok.add (conOk1 (s := spSame fun p q => p = x ∧ q = x2) fun n hn => by
   obtain ⟨p, q⟩ := n
   obtain ⟨h1, h2⟩ : p = x ∧ q = x2 := hn
   rw [h1, h2]
   exact ih x (by simp) x2 (r1 x (by simp)) (r2 x2 (by simp)))) rfl (gSa1_ok k a m t a2 x x2)
 | [x, y], [x2, y2], _, _, ih, r1, r2 =>
  rw [encL_two, encL_two]
  exact saFn (X := XB.add fSame (Sp.con [spSame fun p q => (p = x ∧ q = x2) ∨ (p = y ∧ q = y2)])) (XB_ok.add (conOk1 (s := spSame fun p q => (p = x ∧ q = x2) ∨ (p = y ∧ q = y2)) fun n hn => by
   obtain ⟨p, q⟩ := n
   rcases (hn : (p = x ∧ q = x2) ∨ (p = y ∧ q = y2)) with ⟨h1, h2⟩ | ⟨h1, h2⟩
   · obtain rfl : p = x := h1; obtain rfl : q = x2 := h2; exact ih p (by simp) q (r1 p (by simp)) (r2 q (by simp))
   · obtain rfl : p = y := h1; obtain rfl : q = y2 := h2; exact ih p (by simp) q (r1 p (by simp)) (r2 q (by simp)))) rfl (gSa2_ok k a m t a2 x y x2 y2)
 | x :: y :: z :: r, _, _, h2, _, _, _ => simp only [List.length_cons] at h2; omega
theorem same_ok (a b : Nd) (ha : rightS a = true) (hb : rightS b = true) : FSame a b := by
 refine Nd.rec (motive_1 := fun a => ∀ b, rightS a = true → rightS b = true → FSame a b) (motive_2 := fun l => ∀ x ∈ l, ∀ b, rightS x = true → rightS b = true → FSame x b) ?_ ?_ ?_ a b ha hb
 · intro k a m t ks ih b ha hb; exact sameStep k a m t ks ha ih b hb
 · intro x hx; cases hx
 · intro x l i1 i2 y hy b
   rcases List.mem_cons.1 hy with rfl | hy
   · exact i1 b
   · exact i2 y hy b
/-! names -/
abbrev FNames (n : Nd) : Prop := F fNames [encP n] (.lst false 5 (encL (namesS n)))
attribute [local irreducible] runF in
set_option maxRecDepth 100000 in
theorem nsFn {X : WX} (hX : X.Sound) (hp : X.px = X0) {os : Orc} {k a m : Int} {t : ByteArray} {ks r : List AV} (g : gNs X os k a m t ks r) : F fNames [ndV k a m t ks] (.lst false 5 r) := by
 have hP : X.px.P = Tryz.prog := by rw [hp]; rfl
 have hg : X.px.gl = gl0 := by rw [hp]; rfl
 have := fn_ok (X := X.ask [fNames]) (d := 12) (hX.ask _) (f := fNames) (fn := fn fNames) (code := code fNames) (by show X.px.P.funcs[fNames]? = _; rw [hP]; exact fnOk fNames (by kernel_rfl)) (show (fn fNames).body = some (code fNames) by kernel_rfl) (by kernel_rfl) g
 show FOk Tryz.prog gl0 fNames _ _ _
 rw [← hg, ← hP]; exact this
theorem encL_append : ∀ a b : List Nd, encL (a ++ b) = encL a ++ encL b
 | [], _ => rfl
 | x :: r, b => by show encN x :: encL (r ++ b) = encN x :: (encL r ++ encL b); rw [encL_append r b]
theorem gNsN_ok (a m : Int) (t : ByteArray) (ks : List AV) : gNsN (Orc.t Orc.z) a m t ks := by
 rw [gNsN_vc]; exact ⟨rfl, .trans (.lsts (.cons wkZero .nil)) .lst, .rfl⟩
theorem gNs0_ok (k a m : Int) (t : ByteArray) (h : k ≠ 1) : gNs0 (Orc.f (Orc.f Orc.z)) k a m t := by
 rw [gNs0_vc]; exact ⟨beq_eq_false_iff_ne.2 h, rfl, .nilS, .rfl⟩
theorem gNs1_ok (k a m : Int) (t : ByteArray) (x : Nd) (h : k ≠ 1) (hx : (namesS x).length ≤ 1000000) : gNs1 (Orc.f (Orc.t (Orc.f Orc.z))) (fun n => n = x) k a m t x := by
 rw [gNs1_vc]
 have hl : (encL (namesS x)).length ≤ 1000000 := by rw [encL_length]; exact hx
 refine ⟨beq_eq_false_iff_ne.2 h, decide_eq_true (by show (0 : Int) < 1; decide), x, ⟨rfl, .refl _, rfl⟩, decide_eq_true ⟨by omega, by omega⟩, rfl, decide_eq_false (by show ¬ (1 : Int) < 1; decide), by omega, .of_eq (by rw [List.drop_zero, List.take_length]), .rfl⟩
theorem gNs2_ok (k a m : Int) (t : ByteArray) (x y : Nd) (h : k ≠ 1) (hx : (namesS x).length + (namesS y).length ≤ 1000000) : gNs2 ogNs2 (fun n => n = x ∨ n = y) k a m t x y := by
 rw [gNs2_vc]
 have hl : (encL (namesS x)).length + (encL (namesS y)).length ≤ 1000000 := by rw [encL_length, encL_length]; exact hx
 refine ⟨beq_eq_false_iff_ne.2 h, decide_eq_true (by show (0 : Int) < 2; decide), x, ⟨.inl rfl, .refl _, rfl⟩, decide_eq_true ⟨by omega, by omega⟩, rfl, decide_eq_true (by show (1 : Int) < 2; decide), y, ⟨.inr rfl, .refl _, rfl⟩, ?_, rfl, decide_eq_false (by show ¬ (2 : Int) < 2; decide), ?_, ?_, .rfl⟩
 · rw [List.drop_zero, List.take_length, List.length_append, Nat.zero_add, Nat.ble_eq_true_of_le (Nat.le_refl _), decide_eq_true ⟨by omega, by omega⟩]; rfl
 · rw [List.drop_zero, List.take_length]; omega
 · refine .of_eq ?_; rw [List.drop_zero, List.take_length, List.drop_zero, List.take_length]
set_option maxRecDepth 100000 in
theorem namesStep (k a m : Int) (t : ByteArray) (ks : List Nd) (hr : rightS (.mk k a m t ks) = true) (hL : (namesS (.mk k a m t ks)).length ≤ 1000000) (ih : ∀ x ∈ ks, rightS x = true → (namesS x).length ≤ 1000000 → FNames x) : FNames (.mk k a m t ks) := by
 show F fNames [ndV k a m t (encL ks)] _
 by_cases hk : k = 1
 · subst hk
   have e : namesS (.mk 1 a m t ks) = [.mk 1 a 0 t []] := by rw [namesS, if_pos rfl]
   rw [e]; exact nsFn XB_ok rfl (gNsN_ok a m t _)
 · have e : namesS (.mk k a m t ks) = namesL ks := by rw [namesS, if_neg hk]
   rw [e] at hL ⊢
   have h2 := right_len hr
   have r1 := (kids_kind hr).2.2
   match ks, h2, ih, r1, hL with
   | [], _, _, _, _ => exact nsFn XB_ok rfl (gNs0_ok k a m t hk)
   | [x], _, ih, r1, hL =>
     have e2 : namesL [x] = namesS x := by rw [namesL, namesL, List.append_nil]
     rw [e2] at hL
     rw [e2, encL_one]
     exact nsFn (X := XB.add fNames (Sp.con [spNames fun n => n = x])) (XB_ok.add (conOk1 (s := spNames fun n => n = x) fun n (hn : n = x) => by rw [hn]; exact ih x (by simp) (r1 x (by simp)) hL)) rfl (gNs1_ok k a m t x hk (by omega))
   | [x, y], _, ih, r1, hL =>
     have e2 : namesL [x, y] = namesS x ++ namesS y := by rw [namesL, namesL, namesL, List.append_nil]
     rw [e2, List.length_append] at hL
     rw [e2, encL_two, encL_append]
     exact nsFn (X := XB.add fNames (Sp.con [spNames fun n => n = x ∨ n = y])) (XB_ok.add (conOk1 (s := spNames fun n => n = x ∨ n = y) fun n (hn : n = x ∨ n = y) => by
       rcases hn with hn | hn
       · rw [hn]; exact ih x (by simp) (r1 x (by simp)) (by omega)
       · rw [hn]; exact ih y (by simp) (r1 y (by simp)) (by omega))) rfl (gNs2_ok k a m t x y hk (by omega))
   | x :: y :: z :: r, h2, _, _, _ => simp only [List.length_cons] at h2; omega
theorem names_ok (n : Nd) : rightS n = true → (namesS n).length ≤ 1000000 → FNames n := by
 refine Nd.rec (motive_1 := fun n => rightS n = true → (namesS n).length ≤ 1000000 → FNames n) (motive_2 := fun l => ∀ x ∈ l, rightS x = true → (namesS x).length ≤ 1000000 → FNames x) ?_ ?_ ?_ n
 · intro k a m t ks ih hr hL; exact namesStep k a m t ks hr hL ih
 · intro x hx; cases hx
 · intro x l i1 i2 y hy
   rcases List.mem_cons.1 hy with rfl | hy
   · exact i1
   · exact i2 y hy
end
end Go.Proofs.YtpofhijgccocpaaGreatDoor
end
section
namespace Go.Proofs.YtpofhijgccocpaaGreatDoor
open Go.AS Go.TP
noncomputable section
/-- One call's answer. -/
def sp1 (xs : List AV) (r : AV) : Sp := .pure Unit (fun _ => True) (fun _ => xs) (fun _ => r)
def gCl (os : Orc) (k a m : Int) (t : ByteArray) (ks : List AV) (w : ByteArray) (r : Bool) : Prop := gF XB [fCallR] fCallR os [ndV k a m t ks, s0 w] (b0 r)
def gNm (os : Orc) (n : Nd) (l : List AV) (r : Bool) : Prop := gF (XB.add fNames (Sp.con [sp1 [encP n] (.lst false 5 l)])) [fNamedR] fNamedR os [encP n] (b0 r)
noncomputable def X0R : PX := { X0 with own := fun f d => Nat.beq f fRewritten || Nat.beq f fAs || (Nat.beq f fPSecond && Nat.beq d 4) }
noncomputable def XR : WX := WX.base X0R
def gInA (os : Orc) (kk a2 m2 : Int) (t2 : ByteArray) (y : Nd) : Prop := gF XB [fInnerR] fInnerR os [ndV kk a2 m2 t2 [encP y], i0 kk] (encP y)
def gInB (os : Orc) (kk : Int) (x : Nd) : Prop := gF XB [fInnerR] fInnerR os [encP x, i0 kk] (encP x)
def XSi (x y : Nd) (l r nx ny : Bool) : WX := (XB.add fCallR (Sp.con [sp1 [encP x, s0 wNone] (b0 l), sp1 [encP y, s0 wNone] (b0 r)])).add fNamedR (Sp.con [sp1 [encP x] (b0 nx), sp1 [encP y] (b0 ny)])
def gCaO (os : Orc) (a m : Int) (t : ByteArray) (ks : List AV) : Prop := gF XB [fCalled] fCalled os [ndV 10 a m t ks] (ndV 10 a m t ks)
def gOn10 (os : Orc) (a m : Int) (t : ByteArray) (ks : List AV) (q : Nd) : Prop := gF (XB.add fCalled (Sp.con [sp1 [ndV 10 a m t ks] (encP q)])) [fOnce] fOnce os [ndV 10 a m t ks] (encP q)
def gOnO (os : Orc) (k a m : Int) (t : ByteArray) (ks : List AV) : Prop := gF XB [fOnce] fOnce os [ndV k a m t ks] (ndV k a m t ks)
/-! from the innermost part on -/
def gRw (X : WX) (os : Orc) (k a m : Int) (t : ByteArray) (ks : List AV) (r : AV) : Prop := runF (X.ask [fRewritten]) 12 fRewritten (fn fRewritten) (code fRewritten) os 1 [] [ndV k a m t ks] .nil ⟨r, .nil, []⟩
def XRw (k a m : Int) (t : ByteArray) (ms : List AV) (r : AV) : WX := XR.add fOnce (Sp.con [sp1 [ndV k a m t ms] r])
def gRw0 (os : Orc) (k a m : Int) (t : ByteArray) (q : Nd) : Prop := gRw (XRw k a m t [] (encP q)) os k a m t [] (encP q)
def gRtT (os : Orc) (n : Nd) (q : Nd) : Prop := gF ((XB.add fRight (Sp.con [sp1 [encP n] (b0 true)])).add fRewritten (Sp.con [sp1 [encP n] (encP q)])) [fRewrite] fRewrite os [encP n] (encP q)
def gRtF (os : Orc) (n : Nd) : Prop := gF (XB.add fRight (Sp.con [sp1 [encP n] (b0 false)])) [fRewrite] fRewrite os [encP n] (encP n)
end
end Go.Proofs.YtpofhijgccocpaaGreatDoor
end
section
namespace Go.Proofs.YtpofhijgccocpaaGreatDoor
open Go Go.AS Go.TP
theorem gCl_vc (k a m : Int) (t : ByteArray) (ks : List AV) (w : ByteArray) (r : Bool) : gCl (Orc.s (Orc.t (Orc.t (Orc.t Orc.z))) (Orc.f (Orc.f (Orc.f Orc.z)))) k a m t ks w r = (((k == (10 : Int)) = true → Yt (Yt (Yt (Wk (b0 (ByteArray.toList t == ByteArray.toList w)) (b0 r) ∧ SameH (hpL []) (hpL []))))) ∧ ((k == (10 : Int)) = false → Nf (Nf (Nf (Wk (b0 false) (b0 r) ∧ SameH (hpL []) (hpL [])))))) := by kernel_rfl
theorem gNm_vc (n : Nd) (l : List AV) (r : Bool) : gNm (Orc.z) n l r = (U1 [encP n] [] (Wk (b0 (decide ((↑(List.length l) : Int) > (0 : Int)))) (b0 r) ∧ SameH (hpL []) (hpL []))) := by kernel_rfl
theorem gInA_vc (kk a2 m2 : Int) (t2 : ByteArray) (y : Nd) : gInA (Orc.t Orc.z) kk a2 m2 t2 y = ((kk == kk) = true ∧ Wk (encP y) (encP y) ∧ SameH (hpL []) (hpL [])) := by kernel_rfl
theorem gInB_vc (kk : Int) (x : Nd) : gInB (Orc.f Orc.z) kk x = ((Nd.kind x == kk) = false ∧ Wk (encP x) (encP x) ∧ SameH (hpL []) (hpL [])) := by kernel_rfl
def ogCaO : Orc := Orc.f (Orc.f (Orc.f (Orc.f (Orc.f (Orc.f (Orc.f Orc.z))))))
theorem gCaO_vc (a m : Int) (t : ByteArray) (ks : List AV) : gCaO ogCaO a m t ks = (let z1 := (AV.agg [i0 (10 : Int), i0 a, i0 m, s0 t, AV.lst false 5 ks]); (ByteArray.toList t == ByteArray.toList wAnc) = false ∧ (ByteArray.toList t == ByteArray.toList wDesc) = false ∧ (ByteArray.toList t == ByteArray.toList wHeads) = false ∧ (ByteArray.toList t == ByteArray.toList wRoots) = false ∧ (ByteArray.toList t == ByteArray.toList wFirst) = false ∧ (ByteArray.toList t == ByteArray.toList wLast) = false ∧ (ByteArray.toList t == ByteArray.toList wLimit) = false ∧ Wk z1 z1 ∧ SameH (hpL []) (hpL [])) := by kernel_rfl
def ogOn10 : Orc := Orc.f (Orc.f (Orc.f (Orc.t Orc.z)))
theorem gOn10_vc (a m : Int) (t : ByteArray) (ks : List AV) (q : Nd) : gOn10 ogOn10 a m t ks q = (let z1 := [AV.agg [i0 (10 : Int), i0 a, i0 m, s0 t, AV.lst false 5 ks]]; Nf (Nf (Nf (Yt (U1 z1 [] (Wk (encP q) (encP q) ∧ SameH (hpL []) (hpL []))))))) := by kernel_rfl
def ogOnO : Orc := Orc.f (Orc.f (Orc.f (Orc.f (Orc.f (Orc.f (Orc.f Orc.z))))))
theorem gOnO_vc (k a m : Int) (t : ByteArray) (ks : List AV) : gOnO ogOnO k a m t ks = (let z1 := (AV.agg [i0 k, i0 a, i0 m, s0 t, AV.lst false 5 ks]); (k == (5 : Int)) = false ∧ (k == (6 : Int)) = false ∧ (k == (7 : Int)) = false ∧ (k == (10 : Int)) = false ∧ (k == (4 : Int)) = false ∧ (k == (2 : Int)) = false ∧ (k == (3 : Int)) = false ∧ Wk z1 z1 ∧ SameH (hpL []) (hpL [])) := by kernel_rfl
theorem gRw0_vc (k a m : Int) (t : ByteArray) (q : Nd) : gRw0 (Orc.f Orc.z) k a m t q = (Nf (∃ (_ : Unit), (True ∧ Wks [AV.agg [i0 k, i0 a, i0 m, s0 t, AV.lit (Value.slice none 0 0)]] [AV.agg [i0 k, i0 a, i0 m, s0 t, AV.lst false 5 []]] ∧ hpL [] = hpL []) ∧ Wk (encP q) (encP q) ∧ SameH (hpL []) (hpL []))) := by kernel_rfl
theorem gRtT_vc (n q : Nd) : gRtT (Orc.f Orc.z) n q = (let z1 := (True ∧ Wks [encP n] [encP n] ∧ hpL [] = hpL []); ∃ (_ : Unit), z1 ∧ Nf (∃ (_ : Unit), z1 ∧ Wk (encP q) (encP q) ∧ SameH (hpL []) (hpL []))) := by kernel_rfl
theorem gRtF_vc (n : Nd) : gRtF (Orc.t Orc.z) n = (U1 [encP n] [] (Yt (Wk (encP n) (encP n) ∧ SameH (hpL []) (hpL [])))) := by kernel_rfl
end Go.Proofs.YtpofhijgccocpaaGreatDoor
end
section
namespace Go.Proofs.YtpofhijgccocpaaGreatDoor
open Go.AS Go.TP
noncomputable section
abbrev ndS (k a m : Int) (t : ByteArray) (n : Nat) : AV := .agg [i0 k, i0 a, i0 m, s0 t, .slc 1048577 [0, 0] 0 n]
def hpN (ms : List AV) : Hp := hpL [(1048577, ⟨[0, 0], .row true 5 ms⟩)]
/-- One call's answer; the row stays. -/
def sp2 (xs ms : List AV) (r : AV) : Sp := ⟨Unit, fun _ => True, fun _ => xs, fun _ => hpN ms, fun _ => ⟨r, hpN ms, []⟩⟩
def gH (X : WX) (fs : List Nat) (f : Nat) (os : Orc) (xs ms : List AV) (r : AV) : Prop := runF (X.ask fs) 12 f (fn f) (code f) os 0 [] xs (hpN ms) ⟨r, hpN ms, []⟩
def hAs (os : Orc) (kk k a m : Int) (t : ByteArray) (x q : Nd) : Prop := gH (XB.add fInnerR (Sp.con [sp1 [encP x, i0 kk] (encP q)])) [fAs] fAs os [i0 kk, ndS k a m t 1] [encP x] (ndV kk a 0 ByteArray.empty [encP q])
def hSi (os : Orc) (k a m : Int) (t : ByteArray) (x y : Nd) (l r nx ny : Bool) (q : AV) : Prop := gH (XSi x y l r nx ny) [fSided] fSided os [ndS k a m t 2] [encP x, encP y] q
def hSi2tttt (os : Orc) (a m : Int) (t : ByteArray) (x y : Nd) : Prop := hSi os 2 a m t x y true true true true (encP y)
def hSi2tttf (os : Orc) (a m : Int) (t : ByteArray) (x y : Nd) : Prop := hSi os 2 a m t x y true true true false (encP y)
def hSi2ttft (os : Orc) (a m : Int) (t : ByteArray) (x y : Nd) : Prop := hSi os 2 a m t x y true true false true (encP y)
def hSi2ttff (os : Orc) (a m : Int) (t : ByteArray) (x y : Nd) : Prop := hSi os 2 a m t x y true true false false (encP y)
def hSi2tftt (os : Orc) (a m : Int) (t : ByteArray) (x y : Nd) : Prop := hSi os 2 a m t x y true false true true (encP y)
def hSi2tftf (os : Orc) (a m : Int) (t : ByteArray) (x y : Nd) : Prop := hSi os 2 a m t x y true false true false (encP y)
def hSi2tfft (os : Orc) (a m : Int) (t : ByteArray) (x y : Nd) : Prop := hSi os 2 a m t x y true false false true (encP y)
def hSi2tfff (os : Orc) (a m : Int) (t : ByteArray) (x y : Nd) : Prop := hSi os 2 a m t x y true false false false (encP y)
def hSi2fttt (os : Orc) (a m : Int) (t : ByteArray) (x y : Nd) : Prop := hSi os 2 a m t x y false true true true (encP x)
def hSi2fttf (os : Orc) (a m : Int) (t : ByteArray) (x y : Nd) : Prop := hSi os 2 a m t x y false true true false (encP x)
def hSi2ftft (os : Orc) (a m : Int) (t : ByteArray) (x y : Nd) : Prop := hSi os 2 a m t x y false true false true (encP x)
def hSi2ftff (os : Orc) (a m : Int) (t : ByteArray) (x y : Nd) : Prop := hSi os 2 a m t x y false true false false (encP x)
def hSi2fftt (os : Orc) (a m : Int) (t : ByteArray) (x y : Nd) : Prop := hSi os 2 a m t x y false false true true (ndS 2 a m t 2)
def hSi2fftf (os : Orc) (a m : Int) (t : ByteArray) (x y : Nd) : Prop := hSi os 2 a m t x y false false true false (ndS 2 a m t 2)
def hSi2ffft (os : Orc) (a m : Int) (t : ByteArray) (x y : Nd) : Prop := hSi os 2 a m t x y false false false true (ndS 2 a m t 2)
def hSi2ffff (os : Orc) (a m : Int) (t : ByteArray) (x y : Nd) : Prop := hSi os 2 a m t x y false false false false (ndS 2 a m t 2)
def hSi3tttt (os : Orc) (a m : Int) (t : ByteArray) (x y : Nd) : Prop := hSi os 3 a m t x y true true true true (encP x)
def hSi3tttf (os : Orc) (a m : Int) (t : ByteArray) (x y : Nd) : Prop := hSi os 3 a m t x y true true true false (encP x)
def hSi3ttft (os : Orc) (a m : Int) (t : ByteArray) (x y : Nd) : Prop := hSi os 3 a m t x y true true false true (encP x)
def hSi3ttff (os : Orc) (a m : Int) (t : ByteArray) (x y : Nd) : Prop := hSi os 3 a m t x y true true false false (encP x)
def hSi3tftt (os : Orc) (a m : Int) (t : ByteArray) (x y : Nd) : Prop := hSi os 3 a m t x y true false true true (ndS 3 a m t 2)
def hSi3tftf (os : Orc) (a m : Int) (t : ByteArray) (x y : Nd) : Prop := hSi os 3 a m t x y true false true false (encP x)
def hSi3tfft (os : Orc) (a m : Int) (t : ByteArray) (x y : Nd) : Prop := hSi os 3 a m t x y true false false true (ndS 3 a m t 2)
def hSi3tfff (os : Orc) (a m : Int) (t : ByteArray) (x y : Nd) : Prop := hSi os 3 a m t x y true false false false (encP x)
def hSi3fttt (os : Orc) (a m : Int) (t : ByteArray) (x y : Nd) : Prop := hSi os 3 a m t x y false true true true (encP x)
def hSi3fttf (os : Orc) (a m : Int) (t : ByteArray) (x y : Nd) : Prop := hSi os 3 a m t x y false true true false (encP x)
def hSi3ftft (os : Orc) (a m : Int) (t : ByteArray) (x y : Nd) : Prop := hSi os 3 a m t x y false true false true (encP x)
def hSi3ftff (os : Orc) (a m : Int) (t : ByteArray) (x y : Nd) : Prop := hSi os 3 a m t x y false true false false (encP x)
def hSi3fftt (os : Orc) (a m : Int) (t : ByteArray) (x y : Nd) : Prop := hSi os 3 a m t x y false false true true (ndS 3 a m t 2)
def hSi3fftf (os : Orc) (a m : Int) (t : ByteArray) (x y : Nd) : Prop := hSi os 3 a m t x y false false true false (ndS 3 a m t 2)
def hSi3ffft (os : Orc) (a m : Int) (t : ByteArray) (x y : Nd) : Prop := hSi os 3 a m t x y false false false true (ndS 3 a m t 2)
def hSi3ffff (os : Orc) (a m : Int) (t : ByteArray) (x y : Nd) : Prop := hSi os 3 a m t x y false false false false (ndS 3 a m t 2)
def hSi4tttt (os : Orc) (a m : Int) (t : ByteArray) (x y : Nd) : Prop := hSi os 4 a m t x y true true true true (ndS 4 a m t 2)
def hSi4tttf (os : Orc) (a m : Int) (t : ByteArray) (x y : Nd) : Prop := hSi os 4 a m t x y true true true false (encP x)
def hSi4ttft (os : Orc) (a m : Int) (t : ByteArray) (x y : Nd) : Prop := hSi os 4 a m t x y true true false true (encP y)
def hSi4ttff (os : Orc) (a m : Int) (t : ByteArray) (x y : Nd) : Prop := hSi os 4 a m t x y true true false false (encP x)
def hSi4tftt (os : Orc) (a m : Int) (t : ByteArray) (x y : Nd) : Prop := hSi os 4 a m t x y true false true true (ndS 4 a m t 2)
def hSi4tftf (os : Orc) (a m : Int) (t : ByteArray) (x y : Nd) : Prop := hSi os 4 a m t x y true false true false (encP x)
def hSi4tfft (os : Orc) (a m : Int) (t : ByteArray) (x y : Nd) : Prop := hSi os 4 a m t x y true false false true (ndS 4 a m t 2)
def hSi4tfff (os : Orc) (a m : Int) (t : ByteArray) (x y : Nd) : Prop := hSi os 4 a m t x y true false false false (encP x)
def hSi4fttt (os : Orc) (a m : Int) (t : ByteArray) (x y : Nd) : Prop := hSi os 4 a m t x y false true true true (ndS 4 a m t 2)
def hSi4fttf (os : Orc) (a m : Int) (t : ByteArray) (x y : Nd) : Prop := hSi os 4 a m t x y false true true false (ndS 4 a m t 2)
def hSi4ftft (os : Orc) (a m : Int) (t : ByteArray) (x y : Nd) : Prop := hSi os 4 a m t x y false true false true (encP y)
def hSi4ftff (os : Orc) (a m : Int) (t : ByteArray) (x y : Nd) : Prop := hSi os 4 a m t x y false true false false (encP y)
def hSi4fftt (os : Orc) (a m : Int) (t : ByteArray) (x y : Nd) : Prop := hSi os 4 a m t x y false false true true (ndS 4 a m t 2)
def hSi4fftf (os : Orc) (a m : Int) (t : ByteArray) (x y : Nd) : Prop := hSi os 4 a m t x y false false true false (ndS 4 a m t 2)
def hSi4ffft (os : Orc) (a m : Int) (t : ByteArray) (x y : Nd) : Prop := hSi os 4 a m t x y false false false true (ndS 4 a m t 2)
def hSi4ffff (os : Orc) (a m : Int) (t : ByteArray) (x y : Nd) : Prop := hSi os 4 a m t x y false false false false (ndS 4 a m t 2)
def hCa_wAnc (os : Orc) (a m : Int) (x q : Nd) : Prop := gH (XB.add fAs (Sp.con [sp2 [i0 6, ndS 10 a m wAnc 1] [encP x] (encP q)])) [fCalled] fCalled os [ndS 10 a m wAnc 1] [encP x] (encP q)
def hCa_wDesc (os : Orc) (a m : Int) (x q : Nd) : Prop := gH (XB.add fAs (Sp.con [sp2 [i0 7, ndS 10 a m wDesc 1] [encP x] (encP q)])) [fCalled] fCalled os [ndS 10 a m wDesc 1] [encP x] (encP q)
def hCa_wHeadsT (os : Orc) (a m : Int) (x : Nd) : Prop := gH (XB.add fCallR (Sp.con [sp1 [encP x, s0 wHeads] (b0 true)])) [fCalled] fCalled os [ndS 10 a m wHeads 1] [encP x] (encP x)
def hCa_wHeadsF (os : Orc) (a m : Int) (x : Nd) : Prop := gH (XB.add fCallR (Sp.con [sp1 [encP x, s0 wHeads] (b0 false)])) [fCalled] fCalled os [ndS 10 a m wHeads 1] [encP x] (ndS 10 a m wHeads 1)
def hCa_wRootsT (os : Orc) (a m : Int) (x : Nd) : Prop := gH (XB.add fCallR (Sp.con [sp1 [encP x, s0 wRoots] (b0 true)])) [fCalled] fCalled os [ndS 10 a m wRoots 1] [encP x] (encP x)
def hCa_wRootsF (os : Orc) (a m : Int) (x : Nd) : Prop := gH (XB.add fCallR (Sp.con [sp1 [encP x, s0 wRoots] (b0 false)])) [fCalled] fCalled os [ndS 10 a m wRoots 1] [encP x] (ndS 10 a m wRoots 1)
def hCa_wFirstT (os : Orc) (a m : Int) (x : Nd) : Prop := gH (XB.add fCallR (Sp.con [sp1 [encP x, s0 wNone] (b0 true)])) [fCalled] fCalled os [ndS 10 a m wFirst 1] [encP x] (encP x)
def hCa_wFirstF (os : Orc) (a m : Int) (x : Nd) : Prop := gH (XB.add fCallR (Sp.con [sp1 [encP x, s0 wNone] (b0 false)])) [fCalled] fCalled os [ndS 10 a m wFirst 1] [encP x] (ndS 10 a m wFirst 1)
def hCa_wLastT (os : Orc) (a m : Int) (x : Nd) : Prop := gH (XB.add fCallR (Sp.con [sp1 [encP x, s0 wNone] (b0 true)])) [fCalled] fCalled os [ndS 10 a m wLast 1] [encP x] (encP x)
def hCa_wLastF (os : Orc) (a m : Int) (x : Nd) : Prop := gH (XB.add fCallR (Sp.con [sp1 [encP x, s0 wNone] (b0 false)])) [fCalled] fCalled os [ndS 10 a m wLast 1] [encP x] (ndS 10 a m wLast 1)
def hCa_wLimitT (os : Orc) (a m : Int) (x : Nd) : Prop := gH (XB.add fCallR (Sp.con [sp1 [encP x, s0 wNone] (b0 true)])) [fCalled] fCalled os [ndS 10 a m wLimit 1] [encP x] (encP x)
def hCa_wLimitF (os : Orc) (a m : Int) (x : Nd) : Prop := gH (XB.add fCallR (Sp.con [sp1 [encP x, s0 wNone] (b0 false)])) [fCalled] fCalled os [ndS 10 a m wLimit 1] [encP x] (ndS 10 a m wLimit 1)
def hCaO (os : Orc) (a m : Int) (t : ByteArray) (x : Nd) : Prop := gH XB [fCalled] fCalled os [ndS 10 a m t 1] [encP x] (ndS 10 a m t 1)
def hOn5A (os : Orc) (a m : Int) (t : ByteArray) (a2 m2 : Int) (t2 : ByteArray) (y : Nd) : Prop := gH XB [fOnce] fOnce os [ndS 5 a m t 1] [ndV 5 a2 m2 t2 [encP y]] (encP y)
def hOn5B (os : Orc) (a m : Int) (t : ByteArray) (x : Nd) : Prop := gH XB [fOnce] fOnce os [ndS 5 a m t 1] [encP x] (ndS 5 a m t 1)
def hOn6 (os : Orc) (a m : Int) (t : ByteArray) (x q : Nd) : Prop := gH (XB.add fAs (Sp.con [sp2 [i0 6, ndS 6 a m t 1] [encP x] (encP q)])) [fOnce] fOnce os [ndS 6 a m t 1] [encP x] (encP q)
def hOn7 (os : Orc) (a m : Int) (t : ByteArray) (x q : Nd) : Prop := gH (XB.add fAs (Sp.con [sp2 [i0 7, ndS 7 a m t 1] [encP x] (encP q)])) [fOnce] fOnce os [ndS 7 a m t 1] [encP x] (encP q)
def hOn10V (os : Orc) (a m : Int) (t : ByteArray) (x q : Nd) : Prop := gH (XB.add fCalled (Sp.con [sp2 [ndS 10 a m t 1] [encP x] (encP q)])) [fOnce] fOnce os [ndS 10 a m t 1] [encP x] (encP q)
def hOn10N (os : Orc) (a m : Int) (t : ByteArray) (x : Nd) : Prop := gH (XB.add fCalled (Sp.con [sp2 [ndS 10 a m t 1] [encP x] (ndS 10 a m t 1)])) [fOnce] fOnce os [ndS 10 a m t 1] [encP x] (ndS 10 a m t 1)
def hOn2T (os : Orc) (a m : Int) (t : ByteArray) (x y : Nd) : Prop := gH (XB.add fSame (Sp.con [sp1 [encP x, encP y] (b0 true)])) [fOnce] fOnce os [ndS 2 a m t 2] [encP x, encP y] (encP x)
def hOn2FV (os : Orc) (a m : Int) (t : ByteArray) (x y : Nd) (q : Nd) : Prop := gH ((XB.add fSame (Sp.con [sp1 [encP x, encP y] (b0 false)])).add fSided (Sp.con [sp2 [ndS 2 a m t 2] [encP x, encP y] (encP q)])) [fOnce] fOnce os [ndS 2 a m t 2] [encP x, encP y] (encP q)
def hOn2FN (os : Orc) (a m : Int) (t : ByteArray) (x y : Nd) : Prop := gH ((XB.add fSame (Sp.con [sp1 [encP x, encP y] (b0 false)])).add fSided (Sp.con [sp2 [ndS 2 a m t 2] [encP x, encP y] (ndS 2 a m t 2)])) [fOnce] fOnce os [ndS 2 a m t 2] [encP x, encP y] (ndS 2 a m t 2)
def hOn4T (os : Orc) (a m : Int) (t : ByteArray) (x y : Nd) : Prop := gH (XB.add fSame (Sp.con [sp1 [encP x, encP y] (b0 true)])) [fOnce] fOnce os [ndS 4 a m t 2] [encP x, encP y] (encP x)
def hOn4FV (os : Orc) (a m : Int) (t : ByteArray) (x y : Nd) (q : Nd) : Prop := gH ((XB.add fSame (Sp.con [sp1 [encP x, encP y] (b0 false)])).add fSided (Sp.con [sp2 [ndS 4 a m t 2] [encP x, encP y] (encP q)])) [fOnce] fOnce os [ndS 4 a m t 2] [encP x, encP y] (encP q)
def hOn4FN (os : Orc) (a m : Int) (t : ByteArray) (x y : Nd) : Prop := gH ((XB.add fSame (Sp.con [sp1 [encP x, encP y] (b0 false)])).add fSided (Sp.con [sp2 [ndS 4 a m t 2] [encP x, encP y] (ndS 4 a m t 2)])) [fOnce] fOnce os [ndS 4 a m t 2] [encP x, encP y] (ndS 4 a m t 2)
def hOn3V (os : Orc) (a m : Int) (t : ByteArray) (x y : Nd) (q : Nd) : Prop := gH (XB.add fSided (Sp.con [sp2 [ndS 3 a m t 2] [encP x, encP y] (encP q)])) [fOnce] fOnce os [ndS 3 a m t 2] [encP x, encP y] (encP q)
def hOn3N (os : Orc) (a m : Int) (t : ByteArray) (x y : Nd) : Prop := gH (XB.add fSided (Sp.con [sp2 [ndS 3 a m t 2] [encP x, encP y] (ndS 3 a m t 2)])) [fOnce] fOnce os [ndS 3 a m t 2] [encP x, encP y] (ndS 3 a m t 2)
def hOnO2 (os : Orc) (k a m : Int) (t : ByteArray) (x y : Nd) : Prop := gH XB [fOnce] fOnce os [ndS k a m t 2] [encP x, encP y] (ndS k a m t 2)
/-! from the innermost part on -/
def XRn (k a m : Int) (t : ByteArray) (ms : List AV) (n : Nat) (r : AV) : WX := XR.add fOnce (Sp.con [sp2 [ndS k a m t n] ms r])
def hRw1V (os : Orc) (k a m : Int) (t : ByteArray) (x x2 q : Nd) : Prop := gRw ((XRn k a m t [encP x2] 1 (encP q)).add fRewritten (Sp.con [sp1 [encP x] (encP x2)])) os k a m t [encP x] (encP q)
def hRw1N (os : Orc) (k a m : Int) (t : ByteArray) (x x2 : Nd) : Prop := gRw ((XRn k a m t [encP x2] 1 (ndS k a m t 1)).add fRewritten (Sp.con [sp1 [encP x] (encP x2)])) os k a m t [encP x] (ndV k a m t [encP x2])
def hRw2V (os : Orc) (k a m : Int) (t : ByteArray) (x y x2 y2 q : Nd) : Prop := gRw ((XRn k a m t [encP x2, encP y2] 2 (encP q)).add fRewritten (Sp.con [sp1 [encP x] (encP x2), sp1 [encP y] (encP y2)])) os k a m t [encP x, encP y] (encP q)
def hRw2N (os : Orc) (k a m : Int) (t : ByteArray) (x y x2 y2 : Nd) : Prop := gRw ((XRn k a m t [encP x2, encP y2] 2 (ndS k a m t 2)).add fRewritten (Sp.con [sp1 [encP x] (encP x2), sp1 [encP y] (encP y2)])) os k a m t [encP x, encP y] (ndV k a m t [encP x2, encP y2])
end
end Go.Proofs.YtpofhijgccocpaaGreatDoor
end
section
namespace Go.Proofs.YtpofhijgccocpaaGreatDoor
open Go Go.AS Go.TP
theorem hAs_vc (kk k : Int) (a m : Int) (t : ByteArray) (x q : Nd) : hAs (Orc.z) kk k a m t x q = (let z1 := (hpL [eR 1048577 [0, 0] 5 [encP x]]); U1 [encP x, i0 kk] [] (Wk (AV.agg [i0 kk, i0 a, i0 (0 : Int), s0 { data := { toList := [] } }, AV.lst true 5 [encP q]]) (AV.agg [i0 kk, i0 a, i0 (0 : Int), s0 ByteArray.empty, AV.lst false 5 [encP q]]) ∧ SameH z1 z1)) := by kernel_rfl
def ohSi2tttt : Orc := Orc.alt 0 (Orc.alt 1 (Orc.f (Orc.f (Orc.f (Orc.f (Orc.f (Orc.f (Orc.f (Orc.f (Orc.f (Orc.f (Orc.t (Orc.t Orc.z)))))))))))))
theorem hSi2tttt_vc (a m : Int) (t : ByteArray) (x y : Nd) : hSi2tttt ohSi2tttt a m t x y = (let z1 := (hpL [eR 1048577 [0, 0] 5 [encP x, encP y]]); U1 [encP x, s0 wNone] [] (U1 [encP y, s0 wNone] [] (Nf4 (Nf4 (Nf (Nf (Yt (Yt (Wk (encP y) (encP y) ∧ SameH z1 z1))))))))) := by kernel_rfl
def ohSi2tttf : Orc := Orc.alt 0 (Orc.alt 1 (Orc.f (Orc.f (Orc.f (Orc.f (Orc.f (Orc.f (Orc.f (Orc.f (Orc.f (Orc.f (Orc.t (Orc.t Orc.z)))))))))))))
theorem hSi2tttf_vc (a m : Int) (t : ByteArray) (x y : Nd) : hSi2tttf ohSi2tttf a m t x y = (let z1 := (hpL [eR 1048577 [0, 0] 5 [encP x, encP y]]); U1 [encP x, s0 wNone] [] (U1 [encP y, s0 wNone] [] (Nf4 (Nf4 (Nf (Nf (Yt (Yt (Wk (encP y) (encP y) ∧ SameH z1 z1))))))))) := by kernel_rfl
def ohSi2ttft : Orc := Orc.alt 0 (Orc.alt 1 (Orc.f (Orc.f (Orc.f (Orc.f (Orc.f (Orc.f (Orc.f (Orc.f (Orc.f (Orc.f (Orc.t (Orc.t Orc.z)))))))))))))
theorem hSi2ttft_vc (a m : Int) (t : ByteArray) (x y : Nd) : hSi2ttft ohSi2ttft a m t x y = (let z1 := (hpL [eR 1048577 [0, 0] 5 [encP x, encP y]]); U1 [encP x, s0 wNone] [] (U1 [encP y, s0 wNone] [] (Nf4 (Nf4 (Nf (Nf (Yt (Yt (Wk (encP y) (encP y) ∧ SameH z1 z1))))))))) := by kernel_rfl
def ohSi2ttff : Orc := Orc.alt 0 (Orc.alt 1 (Orc.f (Orc.f (Orc.f (Orc.f (Orc.f (Orc.f (Orc.f (Orc.f (Orc.f (Orc.f (Orc.t (Orc.t Orc.z)))))))))))))
theorem hSi2ttff_vc (a m : Int) (t : ByteArray) (x y : Nd) : hSi2ttff ohSi2ttff a m t x y = (let z1 := (hpL [eR 1048577 [0, 0] 5 [encP x, encP y]]); U1 [encP x, s0 wNone] [] (U1 [encP y, s0 wNone] [] (Nf4 (Nf4 (Nf (Nf (Yt (Yt (Wk (encP y) (encP y) ∧ SameH z1 z1))))))))) := by kernel_rfl
def ohSi2tftt : Orc := Orc.alt 0 (Orc.alt 1 (Orc.f (Orc.f (Orc.f (Orc.f (Orc.f (Orc.f (Orc.f (Orc.f (Orc.f (Orc.f (Orc.t (Orc.t Orc.z)))))))))))))
theorem hSi2tftt_vc (a m : Int) (t : ByteArray) (x y : Nd) : hSi2tftt ohSi2tftt a m t x y = (let z1 := (hpL [eR 1048577 [0, 0] 5 [encP x, encP y]]); U1 [encP x, s0 wNone] [] (U1 [encP y, s0 wNone] [] (Nf4 (Nf4 (Nf (Nf (Yt (Yt (Wk (encP y) (encP y) ∧ SameH z1 z1))))))))) := by kernel_rfl
def ohSi2tftf : Orc := Orc.alt 0 (Orc.alt 1 (Orc.f (Orc.f (Orc.f (Orc.f (Orc.f (Orc.f (Orc.f (Orc.f (Orc.f (Orc.f (Orc.t (Orc.t Orc.z)))))))))))))
theorem hSi2tftf_vc (a m : Int) (t : ByteArray) (x y : Nd) : hSi2tftf ohSi2tftf a m t x y = (let z1 := (hpL [eR 1048577 [0, 0] 5 [encP x, encP y]]); U1 [encP x, s0 wNone] [] (U1 [encP y, s0 wNone] [] (Nf4 (Nf4 (Nf (Nf (Yt (Yt (Wk (encP y) (encP y) ∧ SameH z1 z1))))))))) := by kernel_rfl
def ohSi2tfft : Orc := Orc.alt 0 (Orc.alt 1 (Orc.f (Orc.f (Orc.f (Orc.f (Orc.f (Orc.f (Orc.f (Orc.f (Orc.f (Orc.f (Orc.t (Orc.t Orc.z)))))))))))))
theorem hSi2tfft_vc (a m : Int) (t : ByteArray) (x y : Nd) : hSi2tfft ohSi2tfft a m t x y = (let z1 := (hpL [eR 1048577 [0, 0] 5 [encP x, encP y]]); U1 [encP x, s0 wNone] [] (U1 [encP y, s0 wNone] [] (Nf4 (Nf4 (Nf (Nf (Yt (Yt (Wk (encP y) (encP y) ∧ SameH z1 z1))))))))) := by kernel_rfl
def ohSi2tfff : Orc := Orc.alt 0 (Orc.alt 1 (Orc.f (Orc.f (Orc.f (Orc.f (Orc.f (Orc.f (Orc.f (Orc.f (Orc.f (Orc.f (Orc.t (Orc.t Orc.z)))))))))))))
theorem hSi2tfff_vc (a m : Int) (t : ByteArray) (x y : Nd) : hSi2tfff ohSi2tfff a m t x y = (let z1 := (hpL [eR 1048577 [0, 0] 5 [encP x, encP y]]); U1 [encP x, s0 wNone] [] (U1 [encP y, s0 wNone] [] (Nf4 (Nf4 (Nf (Nf (Yt (Yt (Wk (encP y) (encP y) ∧ SameH z1 z1))))))))) := by kernel_rfl
def ohSi2fttt : Orc := Orc.alt 0 (Orc.alt 1 (Orc.f (Orc.f (Orc.f (Orc.f (Orc.f (Orc.f (Orc.f (Orc.f (Orc.f (Orc.f (Orc.t (Orc.f (Orc.t (Orc.t Orc.z)))))))))))))))
theorem hSi2fttt_vc (a m : Int) (t : ByteArray) (x y : Nd) : hSi2fttt ohSi2fttt a m t x y = (let z1 := (hpL [eR 1048577 [0, 0] 5 [encP x, encP y]]); U1 [encP x, s0 wNone] [] (U1 [encP y, s0 wNone] [] (Nf4 (Nf4 (Nf (Nf (Yt (Nf (Yt (Yt (Wk (encP x) (encP x) ∧ SameH z1 z1))))))))))) := by kernel_rfl
def ohSi2fttf : Orc := Orc.alt 0 (Orc.alt 1 (Orc.f (Orc.f (Orc.f (Orc.f (Orc.f (Orc.f (Orc.f (Orc.f (Orc.f (Orc.f (Orc.t (Orc.f (Orc.t (Orc.t Orc.z)))))))))))))))
theorem hSi2fttf_vc (a m : Int) (t : ByteArray) (x y : Nd) : hSi2fttf ohSi2fttf a m t x y = (let z1 := (hpL [eR 1048577 [0, 0] 5 [encP x, encP y]]); U1 [encP x, s0 wNone] [] (U1 [encP y, s0 wNone] [] (Nf4 (Nf4 (Nf (Nf (Yt (Nf (Yt (Yt (Wk (encP x) (encP x) ∧ SameH z1 z1))))))))))) := by kernel_rfl
def ohSi2ftft : Orc := Orc.alt 0 (Orc.alt 1 (Orc.f (Orc.f (Orc.f (Orc.f (Orc.f (Orc.f (Orc.f (Orc.f (Orc.f (Orc.f (Orc.t (Orc.f (Orc.t (Orc.t Orc.z)))))))))))))))
theorem hSi2ftft_vc (a m : Int) (t : ByteArray) (x y : Nd) : hSi2ftft ohSi2ftft a m t x y = (let z1 := (hpL [eR 1048577 [0, 0] 5 [encP x, encP y]]); U1 [encP x, s0 wNone] [] (U1 [encP y, s0 wNone] [] (Nf4 (Nf4 (Nf (Nf (Yt (Nf (Yt (Yt (Wk (encP x) (encP x) ∧ SameH z1 z1))))))))))) := by kernel_rfl
def ohSi2ftff : Orc := Orc.alt 0 (Orc.alt 1 (Orc.f (Orc.f (Orc.f (Orc.f (Orc.f (Orc.f (Orc.f (Orc.f (Orc.f (Orc.f (Orc.t (Orc.f (Orc.t (Orc.t Orc.z)))))))))))))))
theorem hSi2ftff_vc (a m : Int) (t : ByteArray) (x y : Nd) : hSi2ftff ohSi2ftff a m t x y = (let z1 := (hpL [eR 1048577 [0, 0] 5 [encP x, encP y]]); U1 [encP x, s0 wNone] [] (U1 [encP y, s0 wNone] [] (Nf4 (Nf4 (Nf (Nf (Yt (Nf (Yt (Yt (Wk (encP x) (encP x) ∧ SameH z1 z1))))))))))) := by kernel_rfl
def ohSi2fftt : Orc := Orc.alt 0 (Orc.alt 1 (Orc.f (Orc.f (Orc.f (Orc.f (Orc.f (Orc.f (Orc.f (Orc.f (Orc.f (Orc.f (Orc.t (Orc.f (Orc.t (Orc.f Orc.z)))))))))))))))
theorem hSi2fftt_vc (a m : Int) (t : ByteArray) (x y : Nd) : hSi2fftt ohSi2fftt a m t x y = (let z1 := (AV.agg [i0 (2 : Int), i0 a, i0 m, s0 t, AV.slc 1048577 [0, 0] 0 2]); let z2 := (hpL [eR 1048577 [0, 0] 5 [encP x, encP y]]); U1 [encP x, s0 wNone] [] (U1 [encP y, s0 wNone] [] (Nf4 (Nf4 (Nf (Nf (Yt (Nf (Yt (Nf (Wk z1 z1 ∧ SameH z2 z2))))))))))) := by kernel_rfl
def ohSi2fftf : Orc := Orc.alt 0 (Orc.alt 1 (Orc.f (Orc.f (Orc.f (Orc.f (Orc.f (Orc.f (Orc.f (Orc.f (Orc.f (Orc.f (Orc.t (Orc.f (Orc.t (Orc.f Orc.z)))))))))))))))
theorem hSi2fftf_vc (a m : Int) (t : ByteArray) (x y : Nd) : hSi2fftf ohSi2fftf a m t x y = (let z1 := (AV.agg [i0 (2 : Int), i0 a, i0 m, s0 t, AV.slc 1048577 [0, 0] 0 2]); let z2 := (hpL [eR 1048577 [0, 0] 5 [encP x, encP y]]); U1 [encP x, s0 wNone] [] (U1 [encP y, s0 wNone] [] (Nf4 (Nf4 (Nf (Nf (Yt (Nf (Yt (Nf (Wk z1 z1 ∧ SameH z2 z2))))))))))) := by kernel_rfl
def ohSi2ffft : Orc := Orc.alt 0 (Orc.alt 1 (Orc.f (Orc.f (Orc.f (Orc.f (Orc.f (Orc.f (Orc.f (Orc.f (Orc.f (Orc.f (Orc.t (Orc.f (Orc.t (Orc.f Orc.z)))))))))))))))
theorem hSi2ffft_vc (a m : Int) (t : ByteArray) (x y : Nd) : hSi2ffft ohSi2ffft a m t x y = (let z1 := (AV.agg [i0 (2 : Int), i0 a, i0 m, s0 t, AV.slc 1048577 [0, 0] 0 2]); let z2 := (hpL [eR 1048577 [0, 0] 5 [encP x, encP y]]); U1 [encP x, s0 wNone] [] (U1 [encP y, s0 wNone] [] (Nf4 (Nf4 (Nf (Nf (Yt (Nf (Yt (Nf (Wk z1 z1 ∧ SameH z2 z2))))))))))) := by kernel_rfl
def ohSi2ffff : Orc := Orc.alt 0 (Orc.alt 1 (Orc.f (Orc.f (Orc.f (Orc.f (Orc.f (Orc.f (Orc.f (Orc.f (Orc.f (Orc.f (Orc.t (Orc.f (Orc.t (Orc.f Orc.z)))))))))))))))
theorem hSi2ffff_vc (a m : Int) (t : ByteArray) (x y : Nd) : hSi2ffff ohSi2ffff a m t x y = (let z1 := (AV.agg [i0 (2 : Int), i0 a, i0 m, s0 t, AV.slc 1048577 [0, 0] 0 2]); let z2 := (hpL [eR 1048577 [0, 0] 5 [encP x, encP y]]); U1 [encP x, s0 wNone] [] (U1 [encP y, s0 wNone] [] (Nf4 (Nf4 (Nf (Nf (Yt (Nf (Yt (Nf (Wk z1 z1 ∧ SameH z2 z2))))))))))) := by kernel_rfl
def ohSi3tttt : Orc := Orc.alt 0 (Orc.alt 1 (Orc.t (Orc.t (Orc.t (Orc.alt 1 (Orc.t (Orc.f (Orc.f (Orc.f (Orc.f (Orc.f (Orc.f (Orc.f (Orc.f (Orc.t (Orc.t Orc.z))))))))))))))))
theorem hSi3tttt_vc (a m : Int) (t : ByteArray) (x y : Nd) : hSi3tttt ohSi3tttt a m t x y = (let z1 := (hpL [eR 1048577 [0, 0] 5 [encP x, encP y]]); U1 [encP x, s0 wNone] [] (U1 [encP y, s0 wNone] [] (Yt (Yt (Yt (U1 [encP y] [] (Yt (Nf4 (Nf4 (Yt (Yt (Wk (encP x) (encP x) ∧ SameH z1 z1)))))))))))) := by kernel_rfl
def ohSi3tttf : Orc := Orc.alt 0 (Orc.alt 1 (Orc.t (Orc.t (Orc.t (Orc.alt 1 (Orc.t (Orc.t Orc.z)))))))
theorem hSi3tttf_vc (a m : Int) (t : ByteArray) (x y : Nd) : hSi3tttf ohSi3tttf a m t x y = (let z1 := (hpL [eR 1048577 [0, 0] 5 [encP x, encP y]]); U1 [encP x, s0 wNone] [] (U1 [encP y, s0 wNone] [] (Yt (Yt (Yt (U1 [encP y] [] (Yt (Yt (Wk (encP x) (encP x) ∧ SameH z1 z1))))))))) := by kernel_rfl
def ohSi3ttft : Orc := Orc.alt 0 (Orc.alt 1 (Orc.t (Orc.t (Orc.t (Orc.alt 1 (Orc.t (Orc.f (Orc.f (Orc.f (Orc.f (Orc.f (Orc.f (Orc.f (Orc.f (Orc.t (Orc.t Orc.z))))))))))))))))
theorem hSi3ttft_vc (a m : Int) (t : ByteArray) (x y : Nd) : hSi3ttft ohSi3ttft a m t x y = (let z1 := (hpL [eR 1048577 [0, 0] 5 [encP x, encP y]]); U1 [encP x, s0 wNone] [] (U1 [encP y, s0 wNone] [] (Yt (Yt (Yt (U1 [encP y] [] (Yt (Nf4 (Nf4 (Yt (Yt (Wk (encP x) (encP x) ∧ SameH z1 z1)))))))))))) := by kernel_rfl
def ohSi3ttff : Orc := Orc.alt 0 (Orc.alt 1 (Orc.t (Orc.t (Orc.t (Orc.alt 1 (Orc.t (Orc.t Orc.z)))))))
theorem hSi3ttff_vc (a m : Int) (t : ByteArray) (x y : Nd) : hSi3ttff ohSi3ttff a m t x y = (let z1 := (hpL [eR 1048577 [0, 0] 5 [encP x, encP y]]); U1 [encP x, s0 wNone] [] (U1 [encP y, s0 wNone] [] (Yt (Yt (Yt (U1 [encP y] [] (Yt (Yt (Wk (encP x) (encP x) ∧ SameH z1 z1))))))))) := by kernel_rfl
def ohSi3tftt : Orc := Orc.alt 0 (Orc.alt 1 (Orc.t (Orc.t (Orc.t (Orc.alt 1 (Orc.t (Orc.f (Orc.f (Orc.f (Orc.f (Orc.f (Orc.f (Orc.f (Orc.f (Orc.t (Orc.f Orc.z))))))))))))))))
theorem hSi3tftt_vc (a m : Int) (t : ByteArray) (x y : Nd) : hSi3tftt ohSi3tftt a m t x y = (let z1 := (AV.agg [i0 (3 : Int), i0 a, i0 m, s0 t, AV.slc 1048577 [0, 0] 0 2]); let z2 := (hpL [eR 1048577 [0, 0] 5 [encP x, encP y]]); U1 [encP x, s0 wNone] [] (U1 [encP y, s0 wNone] [] (Yt (Yt (Yt (U1 [encP y] [] (Yt (Nf4 (Nf4 (Yt (Nf (Wk z1 z1 ∧ SameH z2 z2)))))))))))) := by kernel_rfl
def ohSi3tftf : Orc := Orc.alt 0 (Orc.alt 1 (Orc.t (Orc.t (Orc.t (Orc.alt 1 (Orc.t (Orc.t Orc.z)))))))
theorem hSi3tftf_vc (a m : Int) (t : ByteArray) (x y : Nd) : hSi3tftf ohSi3tftf a m t x y = (let z1 := (hpL [eR 1048577 [0, 0] 5 [encP x, encP y]]); U1 [encP x, s0 wNone] [] (U1 [encP y, s0 wNone] [] (Yt (Yt (Yt (U1 [encP y] [] (Yt (Yt (Wk (encP x) (encP x) ∧ SameH z1 z1))))))))) := by kernel_rfl
def ohSi3tfft : Orc := Orc.alt 0 (Orc.alt 1 (Orc.t (Orc.t (Orc.t (Orc.alt 1 (Orc.t (Orc.f (Orc.f (Orc.f (Orc.f (Orc.f (Orc.f (Orc.f (Orc.f (Orc.t (Orc.f Orc.z))))))))))))))))
theorem hSi3tfft_vc (a m : Int) (t : ByteArray) (x y : Nd) : hSi3tfft ohSi3tfft a m t x y = (let z1 := (AV.agg [i0 (3 : Int), i0 a, i0 m, s0 t, AV.slc 1048577 [0, 0] 0 2]); let z2 := (hpL [eR 1048577 [0, 0] 5 [encP x, encP y]]); U1 [encP x, s0 wNone] [] (U1 [encP y, s0 wNone] [] (Yt (Yt (Yt (U1 [encP y] [] (Yt (Nf4 (Nf4 (Yt (Nf (Wk z1 z1 ∧ SameH z2 z2)))))))))))) := by kernel_rfl
def ohSi3tfff : Orc := Orc.alt 0 (Orc.alt 1 (Orc.t (Orc.t (Orc.t (Orc.alt 1 (Orc.t (Orc.t Orc.z)))))))
theorem hSi3tfff_vc (a m : Int) (t : ByteArray) (x y : Nd) : hSi3tfff ohSi3tfff a m t x y = (let z1 := (hpL [eR 1048577 [0, 0] 5 [encP x, encP y]]); U1 [encP x, s0 wNone] [] (U1 [encP y, s0 wNone] [] (Yt (Yt (Yt (U1 [encP y] [] (Yt (Yt (Wk (encP x) (encP x) ∧ SameH z1 z1))))))))) := by kernel_rfl
def ohSi3fttt : Orc := Orc.alt 0 (Orc.alt 1 (Orc.t (Orc.f (Orc.f (Orc.f (Orc.f (Orc.f (Orc.f (Orc.f (Orc.f (Orc.f (Orc.f (Orc.f (Orc.t (Orc.t Orc.z)))))))))))))))
theorem hSi3fttt_vc (a m : Int) (t : ByteArray) (x y : Nd) : hSi3fttt ohSi3fttt a m t x y = (let z1 := (hpL [eR 1048577 [0, 0] 5 [encP x, encP y]]); U1 [encP x, s0 wNone] [] (U1 [encP y, s0 wNone] [] (Yt (Nf4 (Nf4 (Nf (Nf (Nf (Yt (Yt (Wk (encP x) (encP x) ∧ SameH z1 z1))))))))))) := by kernel_rfl
def ohSi3fttf : Orc := Orc.alt 0 (Orc.alt 1 (Orc.t (Orc.f (Orc.f (Orc.f (Orc.f (Orc.f (Orc.f (Orc.f (Orc.f (Orc.f (Orc.f (Orc.f (Orc.t (Orc.t Orc.z)))))))))))))))
theorem hSi3fttf_vc (a m : Int) (t : ByteArray) (x y : Nd) : hSi3fttf ohSi3fttf a m t x y = (let z1 := (hpL [eR 1048577 [0, 0] 5 [encP x, encP y]]); U1 [encP x, s0 wNone] [] (U1 [encP y, s0 wNone] [] (Yt (Nf4 (Nf4 (Nf (Nf (Nf (Yt (Yt (Wk (encP x) (encP x) ∧ SameH z1 z1))))))))))) := by kernel_rfl
def ohSi3ftft : Orc := Orc.alt 0 (Orc.alt 1 (Orc.t (Orc.f (Orc.f (Orc.f (Orc.f (Orc.f (Orc.f (Orc.f (Orc.f (Orc.f (Orc.f (Orc.f (Orc.t (Orc.t Orc.z)))))))))))))))
theorem hSi3ftft_vc (a m : Int) (t : ByteArray) (x y : Nd) : hSi3ftft ohSi3ftft a m t x y = (let z1 := (hpL [eR 1048577 [0, 0] 5 [encP x, encP y]]); U1 [encP x, s0 wNone] [] (U1 [encP y, s0 wNone] [] (Yt (Nf4 (Nf4 (Nf (Nf (Nf (Yt (Yt (Wk (encP x) (encP x) ∧ SameH z1 z1))))))))))) := by kernel_rfl
def ohSi3ftff : Orc := Orc.alt 0 (Orc.alt 1 (Orc.t (Orc.f (Orc.f (Orc.f (Orc.f (Orc.f (Orc.f (Orc.f (Orc.f (Orc.f (Orc.f (Orc.f (Orc.t (Orc.t Orc.z)))))))))))))))
theorem hSi3ftff_vc (a m : Int) (t : ByteArray) (x y : Nd) : hSi3ftff ohSi3ftff a m t x y = (let z1 := (hpL [eR 1048577 [0, 0] 5 [encP x, encP y]]); U1 [encP x, s0 wNone] [] (U1 [encP y, s0 wNone] [] (Yt (Nf4 (Nf4 (Nf (Nf (Nf (Yt (Yt (Wk (encP x) (encP x) ∧ SameH z1 z1))))))))))) := by kernel_rfl
def ohSi3fftt : Orc := Orc.alt 0 (Orc.alt 1 (Orc.t (Orc.f (Orc.f (Orc.f (Orc.f (Orc.f (Orc.f (Orc.f (Orc.f (Orc.f (Orc.f (Orc.f (Orc.t (Orc.f Orc.z)))))))))))))))
theorem hSi3fftt_vc (a m : Int) (t : ByteArray) (x y : Nd) : hSi3fftt ohSi3fftt a m t x y = (let z1 := (AV.agg [i0 (3 : Int), i0 a, i0 m, s0 t, AV.slc 1048577 [0, 0] 0 2]); let z2 := (hpL [eR 1048577 [0, 0] 5 [encP x, encP y]]); U1 [encP x, s0 wNone] [] (U1 [encP y, s0 wNone] [] (Yt (Nf4 (Nf4 (Nf (Nf (Nf (Yt (Nf (Wk z1 z1 ∧ SameH z2 z2))))))))))) := by kernel_rfl
def ohSi3fftf : Orc := Orc.alt 0 (Orc.alt 1 (Orc.t (Orc.f (Orc.f (Orc.f (Orc.f (Orc.f (Orc.f (Orc.f (Orc.f (Orc.f (Orc.f (Orc.f (Orc.t (Orc.f Orc.z)))))))))))))))
theorem hSi3fftf_vc (a m : Int) (t : ByteArray) (x y : Nd) : hSi3fftf ohSi3fftf a m t x y = (let z1 := (AV.agg [i0 (3 : Int), i0 a, i0 m, s0 t, AV.slc 1048577 [0, 0] 0 2]); let z2 := (hpL [eR 1048577 [0, 0] 5 [encP x, encP y]]); U1 [encP x, s0 wNone] [] (U1 [encP y, s0 wNone] [] (Yt (Nf4 (Nf4 (Nf (Nf (Nf (Yt (Nf (Wk z1 z1 ∧ SameH z2 z2))))))))))) := by kernel_rfl
def ohSi3ffft : Orc := Orc.alt 0 (Orc.alt 1 (Orc.t (Orc.f (Orc.f (Orc.f (Orc.f (Orc.f (Orc.f (Orc.f (Orc.f (Orc.f (Orc.f (Orc.f (Orc.t (Orc.f Orc.z)))))))))))))))
theorem hSi3ffft_vc (a m : Int) (t : ByteArray) (x y : Nd) : hSi3ffft ohSi3ffft a m t x y = (let z1 := (AV.agg [i0 (3 : Int), i0 a, i0 m, s0 t, AV.slc 1048577 [0, 0] 0 2]); let z2 := (hpL [eR 1048577 [0, 0] 5 [encP x, encP y]]); U1 [encP x, s0 wNone] [] (U1 [encP y, s0 wNone] [] (Yt (Nf4 (Nf4 (Nf (Nf (Nf (Yt (Nf (Wk z1 z1 ∧ SameH z2 z2))))))))))) := by kernel_rfl
def ohSi3ffff : Orc := Orc.alt 0 (Orc.alt 1 (Orc.t (Orc.f (Orc.f (Orc.f (Orc.f (Orc.f (Orc.f (Orc.f (Orc.f (Orc.f (Orc.f (Orc.f (Orc.t (Orc.f Orc.z)))))))))))))))
theorem hSi3ffff_vc (a m : Int) (t : ByteArray) (x y : Nd) : hSi3ffff ohSi3ffff a m t x y = (let z1 := (AV.agg [i0 (3 : Int), i0 a, i0 m, s0 t, AV.slc 1048577 [0, 0] 0 2]); let z2 := (hpL [eR 1048577 [0, 0] 5 [encP x, encP y]]); U1 [encP x, s0 wNone] [] (U1 [encP y, s0 wNone] [] (Yt (Nf4 (Nf4 (Nf (Nf (Nf (Yt (Nf (Wk z1 z1 ∧ SameH z2 z2))))))))))) := by kernel_rfl
def ohSi4tttt : Orc := Orc.alt 0 (Orc.alt 1 (Orc.t (Orc.t (Orc.t (Orc.alt 1 (Orc.t (Orc.f (Orc.t (Orc.t (Orc.t (Orc.alt 0 (Orc.t (Orc.f (Orc.f (Orc.f (Orc.f (Orc.f Orc.z)))))))))))))))))
theorem hSi4tttt_vc (a m : Int) (t : ByteArray) (x y : Nd) : hSi4tttt ohSi4tttt a m t x y = (let z1 := (AV.agg [i0 (4 : Int), i0 a, i0 m, s0 t, AV.slc 1048577 [0, 0] 0 2]); let z2 := (hpL [eR 1048577 [0, 0] 5 [encP x, encP y]]); U1 [encP x, s0 wNone] [] (U1 [encP y, s0 wNone] [] (Yt (Yt (Yt (U1 [encP y] [] (Yt (Nf (Yt (Yt (Yt (U1 [encP x] [] (Yt (Nf4 (Nf (Wk z1 z1 ∧ SameH z2 z2)))))))))))))))) := by kernel_rfl
def ohSi4tttf : Orc := Orc.alt 0 (Orc.alt 1 (Orc.t (Orc.t (Orc.t (Orc.alt 1 (Orc.t (Orc.t Orc.z)))))))
theorem hSi4tttf_vc (a m : Int) (t : ByteArray) (x y : Nd) : hSi4tttf ohSi4tttf a m t x y = (let z1 := (hpL [eR 1048577 [0, 0] 5 [encP x, encP y]]); U1 [encP x, s0 wNone] [] (U1 [encP y, s0 wNone] [] (Yt (Yt (Yt (U1 [encP y] [] (Yt (Yt (Wk (encP x) (encP x) ∧ SameH z1 z1))))))))) := by kernel_rfl
def ohSi4ttft : Orc := Orc.alt 0 (Orc.alt 1 (Orc.t (Orc.t (Orc.t (Orc.alt 1 (Orc.t (Orc.f (Orc.t (Orc.t (Orc.t (Orc.alt 0 (Orc.t (Orc.t Orc.z)))))))))))))
theorem hSi4ttft_vc (a m : Int) (t : ByteArray) (x y : Nd) : hSi4ttft ohSi4ttft a m t x y = (let z1 := (hpL [eR 1048577 [0, 0] 5 [encP x, encP y]]); U1 [encP x, s0 wNone] [] (U1 [encP y, s0 wNone] [] (Yt (Yt (Yt (U1 [encP y] [] (Yt (Nf (Yt (Yt (Yt (U1 [encP x] [] (Yt (Yt (Wk (encP y) (encP y) ∧ SameH z1 z1))))))))))))))) := by kernel_rfl
def ohSi4ttff : Orc := Orc.alt 0 (Orc.alt 1 (Orc.t (Orc.t (Orc.t (Orc.alt 1 (Orc.t (Orc.t Orc.z)))))))
theorem hSi4ttff_vc (a m : Int) (t : ByteArray) (x y : Nd) : hSi4ttff ohSi4ttff a m t x y = (let z1 := (hpL [eR 1048577 [0, 0] 5 [encP x, encP y]]); U1 [encP x, s0 wNone] [] (U1 [encP y, s0 wNone] [] (Yt (Yt (Yt (U1 [encP y] [] (Yt (Yt (Wk (encP x) (encP x) ∧ SameH z1 z1))))))))) := by kernel_rfl
def ohSi4tftt : Orc := Orc.alt 0 (Orc.alt 1 (Orc.t (Orc.t (Orc.t (Orc.alt 1 (Orc.t (Orc.f (Orc.t (Orc.f (Orc.f (Orc.f (Orc.f (Orc.f (Orc.f (Orc.f (Orc.f Orc.z))))))))))))))))
theorem hSi4tftt_vc (a m : Int) (t : ByteArray) (x y : Nd) : hSi4tftt ohSi4tftt a m t x y = (let z1 := (AV.agg [i0 (4 : Int), i0 a, i0 m, s0 t, AV.slc 1048577 [0, 0] 0 2]); let z2 := (hpL [eR 1048577 [0, 0] 5 [encP x, encP y]]); U1 [encP x, s0 wNone] [] (U1 [encP y, s0 wNone] [] (Yt (Yt (Yt (U1 [encP y] [] (Yt (Nf (Yt (Nf4 (Nf4 (Wk z1 z1 ∧ SameH z2 z2)))))))))))) := by kernel_rfl
def ohSi4tftf : Orc := Orc.alt 0 (Orc.alt 1 (Orc.t (Orc.t (Orc.t (Orc.alt 1 (Orc.t (Orc.t Orc.z)))))))
theorem hSi4tftf_vc (a m : Int) (t : ByteArray) (x y : Nd) : hSi4tftf ohSi4tftf a m t x y = (let z1 := (hpL [eR 1048577 [0, 0] 5 [encP x, encP y]]); U1 [encP x, s0 wNone] [] (U1 [encP y, s0 wNone] [] (Yt (Yt (Yt (U1 [encP y] [] (Yt (Yt (Wk (encP x) (encP x) ∧ SameH z1 z1))))))))) := by kernel_rfl
def ohSi4tfft : Orc := Orc.alt 0 (Orc.alt 1 (Orc.t (Orc.t (Orc.t (Orc.alt 1 (Orc.t (Orc.f (Orc.t (Orc.f (Orc.f (Orc.f (Orc.f (Orc.f (Orc.f (Orc.f (Orc.f Orc.z))))))))))))))))
theorem hSi4tfft_vc (a m : Int) (t : ByteArray) (x y : Nd) : hSi4tfft ohSi4tfft a m t x y = (let z1 := (AV.agg [i0 (4 : Int), i0 a, i0 m, s0 t, AV.slc 1048577 [0, 0] 0 2]); let z2 := (hpL [eR 1048577 [0, 0] 5 [encP x, encP y]]); U1 [encP x, s0 wNone] [] (U1 [encP y, s0 wNone] [] (Yt (Yt (Yt (U1 [encP y] [] (Yt (Nf (Yt (Nf4 (Nf4 (Wk z1 z1 ∧ SameH z2 z2)))))))))))) := by kernel_rfl
def ohSi4tfff : Orc := Orc.alt 0 (Orc.alt 1 (Orc.t (Orc.t (Orc.t (Orc.alt 1 (Orc.t (Orc.t Orc.z)))))))
theorem hSi4tfff_vc (a m : Int) (t : ByteArray) (x y : Nd) : hSi4tfff ohSi4tfff a m t x y = (let z1 := (hpL [eR 1048577 [0, 0] 5 [encP x, encP y]]); U1 [encP x, s0 wNone] [] (U1 [encP y, s0 wNone] [] (Yt (Yt (Yt (U1 [encP y] [] (Yt (Yt (Wk (encP x) (encP x) ∧ SameH z1 z1))))))))) := by kernel_rfl
def ohSi4fttt : Orc := Orc.alt 0 (Orc.alt 1 (Orc.t (Orc.f (Orc.f (Orc.f (Orc.f (Orc.t (Orc.t (Orc.t (Orc.alt 0 (Orc.t (Orc.f (Orc.f (Orc.f (Orc.f (Orc.f Orc.z))))))))))))))))
theorem hSi4fttt_vc (a m : Int) (t : ByteArray) (x y : Nd) : hSi4fttt ohSi4fttt a m t x y = (let z1 := (AV.agg [i0 (4 : Int), i0 a, i0 m, s0 t, AV.slc 1048577 [0, 0] 0 2]); let z2 := (hpL [eR 1048577 [0, 0] 5 [encP x, encP y]]); U1 [encP x, s0 wNone] [] (U1 [encP y, s0 wNone] [] (Yt (Nf4 (Yt (Yt (Yt (U1 [encP x] [] (Yt (Nf4 (Nf (Wk z1 z1 ∧ SameH z2 z2)))))))))))) := by kernel_rfl
def ohSi4fttf : Orc := Orc.alt 0 (Orc.alt 1 (Orc.t (Orc.f (Orc.f (Orc.f (Orc.f (Orc.t (Orc.t (Orc.t (Orc.alt 0 (Orc.t (Orc.f (Orc.f (Orc.f (Orc.f (Orc.f Orc.z))))))))))))))))
theorem hSi4fttf_vc (a m : Int) (t : ByteArray) (x y : Nd) : hSi4fttf ohSi4fttf a m t x y = (let z1 := (AV.agg [i0 (4 : Int), i0 a, i0 m, s0 t, AV.slc 1048577 [0, 0] 0 2]); let z2 := (hpL [eR 1048577 [0, 0] 5 [encP x, encP y]]); U1 [encP x, s0 wNone] [] (U1 [encP y, s0 wNone] [] (Yt (Nf4 (Yt (Yt (Yt (U1 [encP x] [] (Yt (Nf4 (Nf (Wk z1 z1 ∧ SameH z2 z2)))))))))))) := by kernel_rfl
def ohSi4ftft : Orc := Orc.alt 0 (Orc.alt 1 (Orc.t (Orc.f (Orc.f (Orc.f (Orc.f (Orc.t (Orc.t (Orc.t (Orc.alt 0 (Orc.t (Orc.t Orc.z))))))))))))
theorem hSi4ftft_vc (a m : Int) (t : ByteArray) (x y : Nd) : hSi4ftft ohSi4ftft a m t x y = (let z1 := (hpL [eR 1048577 [0, 0] 5 [encP x, encP y]]); U1 [encP x, s0 wNone] [] (U1 [encP y, s0 wNone] [] (Yt (Nf4 (Yt (Yt (Yt (U1 [encP x] [] (Yt (Yt (Wk (encP y) (encP y) ∧ SameH z1 z1))))))))))) := by kernel_rfl
def ohSi4ftff : Orc := Orc.alt 0 (Orc.alt 1 (Orc.t (Orc.f (Orc.f (Orc.f (Orc.f (Orc.t (Orc.t (Orc.t (Orc.alt 0 (Orc.t (Orc.t Orc.z))))))))))))
theorem hSi4ftff_vc (a m : Int) (t : ByteArray) (x y : Nd) : hSi4ftff ohSi4ftff a m t x y = (let z1 := (hpL [eR 1048577 [0, 0] 5 [encP x, encP y]]); U1 [encP x, s0 wNone] [] (U1 [encP y, s0 wNone] [] (Yt (Nf4 (Yt (Yt (Yt (U1 [encP x] [] (Yt (Yt (Wk (encP y) (encP y) ∧ SameH z1 z1))))))))))) := by kernel_rfl
def ohSi4fftt : Orc := Orc.alt 0 (Orc.alt 1 (Orc.t (Orc.f (Orc.f (Orc.f (Orc.f (Orc.t (Orc.f (Orc.f (Orc.f (Orc.f (Orc.f (Orc.f (Orc.f (Orc.f Orc.z)))))))))))))))
theorem hSi4fftt_vc (a m : Int) (t : ByteArray) (x y : Nd) : hSi4fftt ohSi4fftt a m t x y = (let z1 := (AV.agg [i0 (4 : Int), i0 a, i0 m, s0 t, AV.slc 1048577 [0, 0] 0 2]); let z2 := (hpL [eR 1048577 [0, 0] 5 [encP x, encP y]]); U1 [encP x, s0 wNone] [] (U1 [encP y, s0 wNone] [] (Yt (Nf4 (Yt (Nf4 (Nf4 (Wk z1 z1 ∧ SameH z2 z2)))))))) := by kernel_rfl
def ohSi4fftf : Orc := Orc.alt 0 (Orc.alt 1 (Orc.t (Orc.f (Orc.f (Orc.f (Orc.f (Orc.t (Orc.f (Orc.f (Orc.f (Orc.f (Orc.f (Orc.f (Orc.f (Orc.f Orc.z)))))))))))))))
theorem hSi4fftf_vc (a m : Int) (t : ByteArray) (x y : Nd) : hSi4fftf ohSi4fftf a m t x y = (let z1 := (AV.agg [i0 (4 : Int), i0 a, i0 m, s0 t, AV.slc 1048577 [0, 0] 0 2]); let z2 := (hpL [eR 1048577 [0, 0] 5 [encP x, encP y]]); U1 [encP x, s0 wNone] [] (U1 [encP y, s0 wNone] [] (Yt (Nf4 (Yt (Nf4 (Nf4 (Wk z1 z1 ∧ SameH z2 z2)))))))) := by kernel_rfl
def ohSi4ffft : Orc := Orc.alt 0 (Orc.alt 1 (Orc.t (Orc.f (Orc.f (Orc.f (Orc.f (Orc.t (Orc.f (Orc.f (Orc.f (Orc.f (Orc.f (Orc.f (Orc.f (Orc.f Orc.z)))))))))))))))
theorem hSi4ffft_vc (a m : Int) (t : ByteArray) (x y : Nd) : hSi4ffft ohSi4ffft a m t x y = (let z1 := (AV.agg [i0 (4 : Int), i0 a, i0 m, s0 t, AV.slc 1048577 [0, 0] 0 2]); let z2 := (hpL [eR 1048577 [0, 0] 5 [encP x, encP y]]); U1 [encP x, s0 wNone] [] (U1 [encP y, s0 wNone] [] (Yt (Nf4 (Yt (Nf4 (Nf4 (Wk z1 z1 ∧ SameH z2 z2)))))))) := by kernel_rfl
def ohSi4ffff : Orc := Orc.alt 0 (Orc.alt 1 (Orc.t (Orc.f (Orc.f (Orc.f (Orc.f (Orc.t (Orc.f (Orc.f (Orc.f (Orc.f (Orc.f (Orc.f (Orc.f (Orc.f Orc.z)))))))))))))))
theorem hSi4ffff_vc (a m : Int) (t : ByteArray) (x y : Nd) : hSi4ffff ohSi4ffff a m t x y = (let z1 := (AV.agg [i0 (4 : Int), i0 a, i0 m, s0 t, AV.slc 1048577 [0, 0] 0 2]); let z2 := (hpL [eR 1048577 [0, 0] 5 [encP x, encP y]]); U1 [encP x, s0 wNone] [] (U1 [encP y, s0 wNone] [] (Yt (Nf4 (Yt (Nf4 (Nf4 (Wk z1 z1 ∧ SameH z2 z2)))))))) := by kernel_rfl
theorem hCa_wAnc_vc (a m : Int) (x q : Nd) : hCa_wAnc (Orc.t Orc.z) a m x q = (let z1 := [i0 (6 : Int), AV.agg [i0 (10 : Int), i0 a, i0 m, s0 wAnc, AV.slc 1048577 [0, 0] 0 1]]; let z2 := [eR 1048577 [0, 0] 5 [encP x]]; Yt (U1 z1 z2 (Wk (encP q) (encP q) ∧ SameH (hpL z2) (hpL z2)))) := by kernel_rfl
theorem hCa_wDesc_vc (a m : Int) (x q : Nd) : hCa_wDesc (Orc.f (Orc.t Orc.z)) a m x q = (let z1 := [i0 (7 : Int), AV.agg [i0 (10 : Int), i0 a, i0 m, s0 wDesc, AV.slc 1048577 [0, 0] 0 1]]; let z2 := [eR 1048577 [0, 0] 5 [encP x]]; Nf (Yt (U1 z1 z2 (Wk (encP q) (encP q) ∧ SameH (hpL z2) (hpL z2))))) := by kernel_rfl
def ohCa_wHeadsT : Orc := Orc.f (Orc.f (Orc.t (Orc.t (Orc.t Orc.z))))
theorem hCa_wHeadsT_vc (a m : Int) (x : Nd) : hCa_wHeadsT ohCa_wHeadsT a m x = (let z1 := (hpL [eR 1048577 [0, 0] 5 [encP x]]); Nf (Nf (Yt (Yt (U1 [encP x, s0 wHeads] [] (Yt (Wk (encP x) (encP x) ∧ SameH z1 z1))))))) := by kernel_rfl
def ohCa_wHeadsF : Orc := Orc.f (Orc.f (Orc.t (Orc.t (Orc.f Orc.z))))
theorem hCa_wHeadsF_vc (a m : Int) (x : Nd) : hCa_wHeadsF ohCa_wHeadsF a m x = (let z1 := (AV.agg [i0 (10 : Int), i0 a, i0 m, s0 wHeads, AV.slc 1048577 [0, 0] 0 1]); let z2 := (hpL [eR 1048577 [0, 0] 5 [encP x]]); Nf (Nf (Yt (Yt (U1 [encP x, s0 wHeads] [] (Nf (Wk z1 z1 ∧ SameH z2 z2))))))) := by kernel_rfl
def ohCa_wRootsT : Orc := Orc.f (Orc.f (Orc.f (Orc.t (Orc.t Orc.z))))
theorem hCa_wRootsT_vc (a m : Int) (x : Nd) : hCa_wRootsT ohCa_wRootsT a m x = (let z1 := (hpL [eR 1048577 [0, 0] 5 [encP x]]); Nf (Nf (Nf (Yt (U1 [encP x, s0 wRoots] [] (Yt (Wk (encP x) (encP x) ∧ SameH z1 z1))))))) := by kernel_rfl
def ohCa_wRootsF : Orc := Orc.f (Orc.f (Orc.f (Orc.t (Orc.f Orc.z))))
theorem hCa_wRootsF_vc (a m : Int) (x : Nd) : hCa_wRootsF ohCa_wRootsF a m x = (let z1 := (AV.agg [i0 (10 : Int), i0 a, i0 m, s0 wRoots, AV.slc 1048577 [0, 0] 0 1]); let z2 := (hpL [eR 1048577 [0, 0] 5 [encP x]]); Nf (Nf (Nf (Yt (U1 [encP x, s0 wRoots] [] (Nf (Wk z1 z1 ∧ SameH z2 z2))))))) := by kernel_rfl
def ohCa_wFirstT : Orc := Orc.f (Orc.f (Orc.f (Orc.f (Orc.t (Orc.t (Orc.t Orc.z))))))
theorem hCa_wFirstT_vc (a m : Int) (x : Nd) : hCa_wFirstT ohCa_wFirstT a m x = (let z1 := (hpL [eR 1048577 [0, 0] 5 [encP x]]); Nf4 (Yt (Yt (U1 [encP x, s0 wNone] [] (Yt (Wk (encP x) (encP x) ∧ SameH z1 z1)))))) := by kernel_rfl
def ohCa_wFirstF : Orc := Orc.f (Orc.f (Orc.f (Orc.f (Orc.t (Orc.t (Orc.f Orc.z))))))
theorem hCa_wFirstF_vc (a m : Int) (x : Nd) : hCa_wFirstF ohCa_wFirstF a m x = (let z1 := (AV.agg [i0 (10 : Int), i0 a, i0 m, s0 wFirst, AV.slc 1048577 [0, 0] 0 1]); let z2 := (hpL [eR 1048577 [0, 0] 5 [encP x]]); Nf4 (Yt (Yt (U1 [encP x, s0 wNone] [] (Nf (Wk z1 z1 ∧ SameH z2 z2)))))) := by kernel_rfl
def ohCa_wLastT : Orc := Orc.f (Orc.f (Orc.f (Orc.f (Orc.f (Orc.t (Orc.t (Orc.t Orc.z)))))))
theorem hCa_wLastT_vc (a m : Int) (x : Nd) : hCa_wLastT ohCa_wLastT a m x = (let z1 := (hpL [eR 1048577 [0, 0] 5 [encP x]]); Nf4 (Nf (Yt (Yt (U1 [encP x, s0 wNone] [] (Yt (Wk (encP x) (encP x) ∧ SameH z1 z1))))))) := by kernel_rfl
def ohCa_wLastF : Orc := Orc.f (Orc.f (Orc.f (Orc.f (Orc.f (Orc.t (Orc.t (Orc.f Orc.z)))))))
theorem hCa_wLastF_vc (a m : Int) (x : Nd) : hCa_wLastF ohCa_wLastF a m x = (let z1 := (AV.agg [i0 (10 : Int), i0 a, i0 m, s0 wLast, AV.slc 1048577 [0, 0] 0 1]); let z2 := (hpL [eR 1048577 [0, 0] 5 [encP x]]); Nf4 (Nf (Yt (Yt (U1 [encP x, s0 wNone] [] (Nf (Wk z1 z1 ∧ SameH z2 z2))))))) := by kernel_rfl
def ohCa_wLimitT : Orc := Orc.f (Orc.f (Orc.f (Orc.f (Orc.f (Orc.f (Orc.t (Orc.t Orc.z)))))))
theorem hCa_wLimitT_vc (a m : Int) (x : Nd) : hCa_wLimitT ohCa_wLimitT a m x = (let z1 := (hpL [eR 1048577 [0, 0] 5 [encP x]]); Nf4 (Nf (Nf (Yt (U1 [encP x, s0 wNone] [] (Yt (Wk (encP x) (encP x) ∧ SameH z1 z1))))))) := by kernel_rfl
def ohCa_wLimitF : Orc := Orc.f (Orc.f (Orc.f (Orc.f (Orc.f (Orc.f (Orc.t (Orc.f Orc.z)))))))
theorem hCa_wLimitF_vc (a m : Int) (x : Nd) : hCa_wLimitF ohCa_wLimitF a m x = (let z1 := (AV.agg [i0 (10 : Int), i0 a, i0 m, s0 wLimit, AV.slc 1048577 [0, 0] 0 1]); let z2 := (hpL [eR 1048577 [0, 0] 5 [encP x]]); Nf4 (Nf (Nf (Yt (U1 [encP x, s0 wNone] [] (Nf (Wk z1 z1 ∧ SameH z2 z2))))))) := by kernel_rfl
def ohCaO : Orc := Orc.f (Orc.f (Orc.f (Orc.f (Orc.f (Orc.f (Orc.f Orc.z))))))
theorem hCaO_vc (a m : Int) (t : ByteArray) (x : Nd) : hCaO ohCaO a m t x = (let z1 := (AV.agg [i0 (10 : Int), i0 a, i0 m, s0 t, AV.slc 1048577 [0, 0] 0 1]); let z2 := (hpL [eR 1048577 [0, 0] 5 [encP x]]); (ByteArray.toList t == ByteArray.toList wAnc) = false ∧ (ByteArray.toList t == ByteArray.toList wDesc) = false ∧ (ByteArray.toList t == ByteArray.toList wHeads) = false ∧ (ByteArray.toList t == ByteArray.toList wRoots) = false ∧ (ByteArray.toList t == ByteArray.toList wFirst) = false ∧ (ByteArray.toList t == ByteArray.toList wLast) = false ∧ (ByteArray.toList t == ByteArray.toList wLimit) = false ∧ Wk z1 z1 ∧ SameH z2 z2) := by kernel_rfl
theorem hOn5A_vc (a m : Int) (t : ByteArray) (a2 m2 : Int) (t2 : ByteArray) (y : Nd) : hOn5A (Orc.t (Orc.t Orc.z)) a m t a2 m2 t2 y = (let z1 := (hpL [eR 1048577 [0, 0] 5 [AV.agg [i0 (5 : Int), i0 a2, i0 m2, s0 t2, AV.lst false 5 [encP y]]]]); Yt (Yt (Wk (encP y) (encP y) ∧ SameH z1 z1))) := by kernel_rfl
theorem hOn5B_vc (a m : Int) (t : ByteArray) (x : Nd) : hOn5B (Orc.t (Orc.f Orc.z)) a m t x = (let z1 := (AV.agg [i0 (5 : Int), i0 a, i0 m, s0 t, AV.slc 1048577 [0, 0] 0 1]); let z2 := (hpL [eR 1048577 [0, 0] 5 [encP x]]); Yt ((Nd.kind x == (5 : Int)) = false ∧ Wk z1 z1 ∧ SameH z2 z2)) := by kernel_rfl
theorem hOn6_vc (a m : Int) (t : ByteArray) (x q : Nd) : hOn6 (Orc.f (Orc.t (Orc.t Orc.z))) a m t x q = (let z1 := [i0 (6 : Int), AV.agg [i0 (6 : Int), i0 a, i0 m, s0 t, AV.slc 1048577 [0, 0] 0 1]]; let z2 := [eR 1048577 [0, 0] 5 [encP x]]; Nf (Yt (Yt (U1 z1 z2 (Wk (encP q) (encP q) ∧ SameH (hpL z2) (hpL z2)))))) := by kernel_rfl
theorem hOn7_vc (a m : Int) (t : ByteArray) (x q : Nd) : hOn7 (Orc.f (Orc.f (Orc.t Orc.z))) a m t x q = (let z1 := [i0 (7 : Int), AV.agg [i0 (7 : Int), i0 a, i0 m, s0 t, AV.slc 1048577 [0, 0] 0 1]]; let z2 := [eR 1048577 [0, 0] 5 [encP x]]; Nf (Nf (Yt (U1 z1 z2 (Wk (encP q) (encP q) ∧ SameH (hpL z2) (hpL z2)))))) := by kernel_rfl
def ohOn10V : Orc := Orc.f (Orc.f (Orc.f (Orc.t Orc.z)))
theorem hOn10V_vc (a m : Int) (t : ByteArray) (x q : Nd) : hOn10V ohOn10V a m t x q = (let z1 := [eR 1048577 [0, 0] 5 [encP x]]; let z2 := [AV.agg [i0 (10 : Int), i0 a, i0 m, s0 t, AV.slc 1048577 [0, 0] 0 1]]; Nf (Nf (Nf (Yt (U1 z2 z1 (Wk (encP q) (encP q) ∧ SameH (hpL z1) (hpL z1))))))) := by kernel_rfl
def ohOn10N : Orc := Orc.f (Orc.f (Orc.f (Orc.t Orc.z)))
theorem hOn10N_vc (a m : Int) (t : ByteArray) (x : Nd) : hOn10N ohOn10N a m t x = (let z1 := [i0 (10 : Int), i0 a, i0 m, s0 t, AV.slc 1048577 [0, 0] 0 1]; let z2 := [eR 1048577 [0, 0] 5 [encP x]]; Nf (Nf (Nf (Yt (U1 [AV.agg z1] z2 (Wk (AV.agg z1) (AV.agg z1) ∧ SameH (hpL z2) (hpL z2))))))) := by kernel_rfl
def ohOn2T : Orc := Orc.f (Orc.f (Orc.f (Orc.f (Orc.f (Orc.t (Orc.t Orc.z))))))
theorem hOn2T_vc (a m : Int) (t : ByteArray) (x y : Nd) : hOn2T ohOn2T a m t x y = (let z1 := (hpL [eR 1048577 [0, 0] 5 [encP x, encP y]]); Nf4 (Nf (Yt (U1 [encP x, encP y] [] (Yt (Wk (encP x) (encP x) ∧ SameH z1 z1)))))) := by kernel_rfl
def ohOn2FV : Orc := Orc.f (Orc.f (Orc.f (Orc.f (Orc.f (Orc.t (Orc.f Orc.z))))))
theorem hOn2FV_vc (a m : Int) (t : ByteArray) (x y q : Nd) : hOn2FV ohOn2FV a m t x y q = (let z1 := [eR 1048577 [0, 0] 5 [encP x, encP y]]; let z2 := [AV.agg [i0 (2 : Int), i0 a, i0 m, s0 t, AV.slc 1048577 [0, 0] 0 2]]; Nf4 (Nf (Yt (U1 [encP x, encP y] [] (Nf (U1 z2 z1 (Wk (encP q) (encP q) ∧ SameH (hpL z1) (hpL z1)))))))) := by kernel_rfl
def ohOn2FN : Orc := Orc.f (Orc.f (Orc.f (Orc.f (Orc.f (Orc.t (Orc.f Orc.z))))))
theorem hOn2FN_vc (a m : Int) (t : ByteArray) (x y : Nd) : hOn2FN ohOn2FN a m t x y = (let z1 := [i0 (2 : Int), i0 a, i0 m, s0 t, AV.slc 1048577 [0, 0] 0 2]; let z2 := [eR 1048577 [0, 0] 5 [encP x, encP y]]; Nf4 (Nf (Yt (U1 [encP x, encP y] [] (Nf (U1 [AV.agg z1] z2 (Wk (AV.agg z1) (AV.agg z1) ∧ SameH (hpL z2) (hpL z2)))))))) := by kernel_rfl
def ohOn4T : Orc := Orc.f (Orc.f (Orc.f (Orc.f (Orc.t (Orc.t (Orc.t Orc.z))))))
theorem hOn4T_vc (a m : Int) (t : ByteArray) (x y : Nd) : hOn4T ohOn4T a m t x y = (let z1 := (hpL [eR 1048577 [0, 0] 5 [encP x, encP y]]); Nf4 (Yt (Yt (U1 [encP x, encP y] [] (Yt (Wk (encP x) (encP x) ∧ SameH z1 z1)))))) := by kernel_rfl
def ohOn4FV : Orc := Orc.f (Orc.f (Orc.f (Orc.f (Orc.t (Orc.t (Orc.f Orc.z))))))
theorem hOn4FV_vc (a m : Int) (t : ByteArray) (x y q : Nd) : hOn4FV ohOn4FV a m t x y q = (let z1 := [eR 1048577 [0, 0] 5 [encP x, encP y]]; let z2 := [AV.agg [i0 (4 : Int), i0 a, i0 m, s0 t, AV.slc 1048577 [0, 0] 0 2]]; Nf4 (Yt (Yt (U1 [encP x, encP y] [] (Nf (U1 z2 z1 (Wk (encP q) (encP q) ∧ SameH (hpL z1) (hpL z1)))))))) := by kernel_rfl
def ohOn4FN : Orc := Orc.f (Orc.f (Orc.f (Orc.f (Orc.t (Orc.t (Orc.f Orc.z))))))
theorem hOn4FN_vc (a m : Int) (t : ByteArray) (x y : Nd) : hOn4FN ohOn4FN a m t x y = (let z1 := [i0 (4 : Int), i0 a, i0 m, s0 t, AV.slc 1048577 [0, 0] 0 2]; let z2 := [eR 1048577 [0, 0] 5 [encP x, encP y]]; Nf4 (Yt (Yt (U1 [encP x, encP y] [] (Nf (U1 [AV.agg z1] z2 (Wk (AV.agg z1) (AV.agg z1) ∧ SameH (hpL z2) (hpL z2)))))))) := by kernel_rfl
def ohOn3V : Orc := Orc.f (Orc.f (Orc.f (Orc.f (Orc.f (Orc.f (Orc.t Orc.z))))))
theorem hOn3V_vc (a m : Int) (t : ByteArray) (x y q : Nd) : hOn3V ohOn3V a m t x y q = (let z1 := [eR 1048577 [0, 0] 5 [encP x, encP y]]; let z2 := [AV.agg [i0 (3 : Int), i0 a, i0 m, s0 t, AV.slc 1048577 [0, 0] 0 2]]; Nf4 (Nf (Nf (Yt (U1 z2 z1 (Wk (encP q) (encP q) ∧ SameH (hpL z1) (hpL z1))))))) := by kernel_rfl
def ohOn3N : Orc := Orc.f (Orc.f (Orc.f (Orc.f (Orc.f (Orc.f (Orc.t Orc.z))))))
theorem hOn3N_vc (a m : Int) (t : ByteArray) (x y : Nd) : hOn3N ohOn3N a m t x y = (let z1 := [i0 (3 : Int), i0 a, i0 m, s0 t, AV.slc 1048577 [0, 0] 0 2]; let z2 := [eR 1048577 [0, 0] 5 [encP x, encP y]]; Nf4 (Nf (Nf (Yt (U1 [AV.agg z1] z2 (Wk (AV.agg z1) (AV.agg z1) ∧ SameH (hpL z2) (hpL z2))))))) := by kernel_rfl
def ohOnO2 : Orc := Orc.f (Orc.f (Orc.f (Orc.f (Orc.f (Orc.f (Orc.f Orc.z))))))
theorem hOnO2_vc (k a m : Int) (t : ByteArray) (x y : Nd) : hOnO2 ohOnO2 k a m t x y = (let z1 := (AV.agg [i0 k, i0 a, i0 m, s0 t, AV.slc 1048577 [0, 0] 0 2]); let z2 := (hpL [eR 1048577 [0, 0] 5 [encP x, encP y]]); (k == (5 : Int)) = false ∧ (k == (6 : Int)) = false ∧ (k == (7 : Int)) = false ∧ (k == (10 : Int)) = false ∧ (k == (4 : Int)) = false ∧ (k == (2 : Int)) = false ∧ (k == (3 : Int)) = false ∧ Wk z1 z1 ∧ SameH z2 z2) := by kernel_rfl
theorem hRw1V_vc (k a m : Int) (t : ByteArray) (x x2 q : Nd) : hRw1V (Orc.t (Orc.f Orc.z)) k a m t x x2 q = (decide ((0 : Int) < (↑(List.length [encP x]) : Int)) = true ∧ U1 [encP x] [] (decide (List.length [encP x2] * 64 ≤ 140737488355328 ∧ List.length [encP x2] ≤ 1152921504606846976) = true ∧ Yt (decide ((1 : Int) < (↑(List.length [encP x]) : Int)) = false ∧ ∃ (_ : Unit), (True ∧ Wks [AV.agg [i0 k, i0 a, i0 m, s0 t, AV.slc 1048577 [0, 0] 0 (List.length [encP x2])]] [AV.agg [i0 k, i0 a, i0 m, s0 t, AV.slc 1048577 [0, 0] 0 1]] ∧ hpL [eR 1048577 [0, 0] 5 [encP x2]] = hpL [eR 1048577 [0, 0] 5 [encP x2]]) ∧ Wk (encP q) (encP q) ∧ SameH (hpL []) (hpL [])))) := by kernel_rfl
theorem hRw1N_vc (k a m : Int) (t : ByteArray) (x x2 : Nd) : hRw1N (Orc.t (Orc.f Orc.z)) k a m t x x2 = (let z1 := (AV.agg [i0 k, i0 a, i0 m, s0 t, AV.lst false 5 [encP x2]]); decide ((0 : Int) < (↑(List.length [encP x]) : Int)) = true ∧ U1 [encP x] [] (decide (List.length [encP x2] * 64 ≤ 140737488355328 ∧ List.length [encP x2] ≤ 1152921504606846976) = true ∧ Yt (decide ((1 : Int) < (↑(List.length [encP x]) : Int)) = false ∧ ∃ (_ : Unit), (True ∧ Wks [AV.agg [i0 k, i0 a, i0 m, s0 t, AV.slc 1048577 [0, 0] 0 (List.length [encP x2])]] [AV.agg [i0 k, i0 a, i0 m, s0 t, AV.slc 1048577 [0, 0] 0 1]] ∧ hpL [eR 1048577 [0, 0] 5 [encP x2]] = hpL [eR 1048577 [0, 0] 5 [encP x2]]) ∧ 1 ≤ List.length [encP x2] ∧ 1 ≤ List.length [encP x2] ∧ 0 + List.length [encP x2] ≤ List.length [encP x2] ∧ Wk z1 z1 ∧ SameH (hpL []) (hpL [])))) := by kernel_rfl
def ohRw2V : Orc := Orc.t (Orc.alt 0 (Orc.t (Orc.alt 1 (Orc.f Orc.z))))
theorem hRw2V_vc (k a m : Int) (t : ByteArray) (x y : Nd) (x2 y2 q : Nd) : hRw2V ohRw2V k a m t x y x2 y2 q = (let z1 := (↑(List.length [encP x, encP y]) : Int); let z2 := [encP x2, encP y2]; decide ((0 : Int) < z1) = true ∧ U1 [encP x] [] (decide (List.length [encP x2] * 64 ≤ 140737488355328 ∧ List.length [encP x2] ≤ 1152921504606846976) = true ∧ Yt (decide ((1 : Int) < z1) = true ∧ U1 [encP y] [] ((true && (Nat.beq 5 5 && Nat.ble (0 + List.length [encP x2]) (List.length [encP x2])) && (true && (Nat.beq 5 5 && Nat.ble (0 + List.length [encP y2]) (List.length [encP y2])) && decide (List.length z2 * 64 ≤ 140737488355328 ∧ List.length z2 ≤ 1152921504606846976))) = true ∧ Yt (decide ((2 : Int) < z1) = false ∧ ∃ (_ : Unit), (True ∧ Wks [AV.agg [i0 k, i0 a, i0 m, s0 t, AV.slc 1048577 [0, 0] 0 (List.length z2)]] [AV.agg [i0 k, i0 a, i0 m, s0 t, AV.slc 1048577 [0, 0] 0 2]] ∧ hpL [eR 1048577 [0, 0] 5 z2] = hpL [eR 1048577 [0, 0] 5 z2]) ∧ Wk (encP q) (encP q) ∧ SameH (hpL []) (hpL [])))))) := by kernel_rfl
def ohRw2N : Orc := Orc.t (Orc.alt 0 (Orc.t (Orc.alt 1 (Orc.f Orc.z))))
theorem hRw2N_vc (k a m : Int) (t : ByteArray) (x y : Nd) (x2 y2 : Nd) : hRw2N ohRw2N k a m t x y x2 y2 = (let z1 := [encP x2, encP y2]; let z2 := (↑(List.length [encP x, encP y]) : Int); let z3 := (AV.agg [i0 k, i0 a, i0 m, s0 t, AV.lst false 5 z1]); decide ((0 : Int) < z2) = true ∧ U1 [encP x] [] (decide (List.length [encP x2] * 64 ≤ 140737488355328 ∧ List.length [encP x2] ≤ 1152921504606846976) = true ∧ Yt (decide ((1 : Int) < z2) = true ∧ U1 [encP y] [] ((true && (Nat.beq 5 5 && Nat.ble (0 + List.length [encP x2]) (List.length [encP x2])) && (true && (Nat.beq 5 5 && Nat.ble (0 + List.length [encP y2]) (List.length [encP y2])) && decide (List.length z1 * 64 ≤ 140737488355328 ∧ List.length z1 ≤ 1152921504606846976))) = true ∧ Yt (decide ((2 : Int) < z2) = false ∧ ∃ (_ : Unit), (True ∧ Wks [AV.agg [i0 k, i0 a, i0 m, s0 t, AV.slc 1048577 [0, 0] 0 (List.length z1)]] [AV.agg [i0 k, i0 a, i0 m, s0 t, AV.slc 1048577 [0, 0] 0 2]] ∧ hpL [eR 1048577 [0, 0] 5 z1] = hpL [eR 1048577 [0, 0] 5 z1]) ∧ 2 ≤ List.length z1 ∧ 2 ≤ List.length z1 ∧ 0 + List.length z1 ≤ List.length z1 ∧ Wk z3 z3 ∧ SameH (hpL []) (hpL [])))))) := by kernel_rfl
end Go.Proofs.YtpofhijgccocpaaGreatDoor
end
section
namespace Go.Proofs.YtpofhijgccocpaaGreatDoor
open Go.AS Go.TP
noncomputable section
theorem strNe {s t : ByteArray} (h : s ≠ t) : (ByteArray.toList s == ByteArray.toList t) = false := by rw [strEq']; exact decide_eq_false h
theorem intNe {a b : Int} (h : a ≠ b) : (a == b) = false := beq_eq_false_iff_ne.2 h
theorem r_go {p : Prop} (h : p := by repeat (first | refine And.intro ?_ ?_ | refine Exists.intro () ?_ | exact True.intro | exact Wks.refl _ | exact Wk.refl _ | exact wkNode | exact SameH.rfl | exact intNe (by assumption) | exact strNe (by assumption) | exact beq_self_eq_true _ | exact decide_eq_true (by simp only [List.length_cons, List.length_nil]; omega) | exact decide_eq_false (by simp only [List.length_cons, List.length_nil]; omega) | exact rfl | (simp only [List.length_cons, List.length_nil]; omega))) : p := h
theorem gInA_ok (kk : Int) (a2 : Int) (m2 : Int) (t2 : ByteArray) (y : Nd)  : gInA (Orc.t Orc.z) kk a2 m2 t2 y := by
 rw [gInA_vc]
 exact r_go
theorem gInB_ok (kk : Int) (x : Nd) (hk : Nd.kind x ≠ kk) : gInB (Orc.f Orc.z) kk x := by
 rw [gInB_vc]
 exact r_go
theorem gCaO_ok (a : Int) (m : Int) (t : ByteArray) (ks : List AV) (c1 : t ≠ wAnc) (c2 : t ≠ wDesc) (c3 : t ≠ wHeads) (c4 : t ≠ wRoots) (c5 : t ≠ wFirst) (c6 : t ≠ wLast) (c7 : t ≠ wLimit) : gCaO ogCaO a m t ks := by
 rw [gCaO_vc]
 exact r_go
theorem gOn10_ok (a : Int) (m : Int) (t : ByteArray) (ks : List AV) (q : Nd)  : gOn10 ogOn10 a m t ks q := by
 rw [gOn10_vc]
 exact r_go
theorem gOnO_ok (k : Int) (a : Int) (m : Int) (t : ByteArray) (ks : List AV) (k5 : k ≠ 5) (k6 : k ≠ 6) (k7 : k ≠ 7) (k10 : k ≠ 10) (k4 : k ≠ 4) (k2 : k ≠ 2) (k3 : k ≠ 3) : gOnO ogOnO k a m t ks := by
 rw [gOnO_vc]
 exact r_go
theorem gRtT_ok (n : Nd) (q : Nd)  : gRtT (Orc.f Orc.z) n q := by
 rw [gRtT_vc]
 exact r_go
theorem gRtF_ok (n : Nd)  : gRtF (Orc.t Orc.z) n := by
 rw [gRtF_vc]
 exact r_go
theorem hAs_ok (kk : Int) (k : Int) (a : Int) (m : Int) (t : ByteArray) (x : Nd) (q : Nd)  : hAs (Orc.z) kk k a m t x q := by
 rw [hAs_vc]
 exact r_go
theorem hSi2tttt_ok (a : Int) (m : Int) (t : ByteArray) (x : Nd) (y : Nd)  : hSi2tttt ohSi2tttt a m t x y := by
 rw [hSi2tttt_vc]
 exact r_go
theorem hSi2tttf_ok (a : Int) (m : Int) (t : ByteArray) (x : Nd) (y : Nd)  : hSi2tttf ohSi2tttf a m t x y := by
 rw [hSi2tttf_vc]
 exact r_go
theorem hSi2ttft_ok (a : Int) (m : Int) (t : ByteArray) (x : Nd) (y : Nd)  : hSi2ttft ohSi2ttft a m t x y := by
 rw [hSi2ttft_vc]
 exact r_go
theorem hSi2ttff_ok (a : Int) (m : Int) (t : ByteArray) (x : Nd) (y : Nd)  : hSi2ttff ohSi2ttff a m t x y := by
 rw [hSi2ttff_vc]
 exact r_go
theorem hSi2tftt_ok (a : Int) (m : Int) (t : ByteArray) (x : Nd) (y : Nd)  : hSi2tftt ohSi2tftt a m t x y := by
 rw [hSi2tftt_vc]
 exact r_go
theorem hSi2tftf_ok (a : Int) (m : Int) (t : ByteArray) (x : Nd) (y : Nd)  : hSi2tftf ohSi2tftf a m t x y := by
 rw [hSi2tftf_vc]
 exact r_go
theorem hSi2tfft_ok (a : Int) (m : Int) (t : ByteArray) (x : Nd) (y : Nd)  : hSi2tfft ohSi2tfft a m t x y := by
 rw [hSi2tfft_vc]
 exact r_go
theorem hSi2tfff_ok (a : Int) (m : Int) (t : ByteArray) (x : Nd) (y : Nd)  : hSi2tfff ohSi2tfff a m t x y := by
 rw [hSi2tfff_vc]
 exact r_go
theorem hSi2fttt_ok (a : Int) (m : Int) (t : ByteArray) (x : Nd) (y : Nd)  : hSi2fttt ohSi2fttt a m t x y := by
 rw [hSi2fttt_vc]
 exact r_go
theorem hSi2fttf_ok (a : Int) (m : Int) (t : ByteArray) (x : Nd) (y : Nd)  : hSi2fttf ohSi2fttf a m t x y := by
 rw [hSi2fttf_vc]
 exact r_go
theorem hSi2ftft_ok (a : Int) (m : Int) (t : ByteArray) (x : Nd) (y : Nd)  : hSi2ftft ohSi2ftft a m t x y := by
 rw [hSi2ftft_vc]
 exact r_go
theorem hSi2ftff_ok (a : Int) (m : Int) (t : ByteArray) (x : Nd) (y : Nd)  : hSi2ftff ohSi2ftff a m t x y := by
 rw [hSi2ftff_vc]
 exact r_go
theorem hSi2fftt_ok (a : Int) (m : Int) (t : ByteArray) (x : Nd) (y : Nd)  : hSi2fftt ohSi2fftt a m t x y := by
 rw [hSi2fftt_vc]
 exact r_go
theorem hSi2fftf_ok (a : Int) (m : Int) (t : ByteArray) (x : Nd) (y : Nd)  : hSi2fftf ohSi2fftf a m t x y := by
 rw [hSi2fftf_vc]
 exact r_go
theorem hSi2ffft_ok (a : Int) (m : Int) (t : ByteArray) (x : Nd) (y : Nd)  : hSi2ffft ohSi2ffft a m t x y := by
 rw [hSi2ffft_vc]
 exact r_go
theorem hSi2ffff_ok (a : Int) (m : Int) (t : ByteArray) (x : Nd) (y : Nd)  : hSi2ffff ohSi2ffff a m t x y := by
 rw [hSi2ffff_vc]
 exact r_go
theorem hSi3tttt_ok (a : Int) (m : Int) (t : ByteArray) (x : Nd) (y : Nd)  : hSi3tttt ohSi3tttt a m t x y := by
 rw [hSi3tttt_vc]
 exact r_go
theorem hSi3tttf_ok (a : Int) (m : Int) (t : ByteArray) (x : Nd) (y : Nd)  : hSi3tttf ohSi3tttf a m t x y := by
 rw [hSi3tttf_vc]
 exact r_go
theorem hSi3ttft_ok (a : Int) (m : Int) (t : ByteArray) (x : Nd) (y : Nd)  : hSi3ttft ohSi3ttft a m t x y := by
 rw [hSi3ttft_vc]
 exact r_go
theorem hSi3ttff_ok (a : Int) (m : Int) (t : ByteArray) (x : Nd) (y : Nd)  : hSi3ttff ohSi3ttff a m t x y := by
 rw [hSi3ttff_vc]
 exact r_go
theorem hSi3tftt_ok (a : Int) (m : Int) (t : ByteArray) (x : Nd) (y : Nd)  : hSi3tftt ohSi3tftt a m t x y := by
 rw [hSi3tftt_vc]
 exact r_go
theorem hSi3tftf_ok (a : Int) (m : Int) (t : ByteArray) (x : Nd) (y : Nd)  : hSi3tftf ohSi3tftf a m t x y := by
 rw [hSi3tftf_vc]
 exact r_go
theorem hSi3tfft_ok (a : Int) (m : Int) (t : ByteArray) (x : Nd) (y : Nd)  : hSi3tfft ohSi3tfft a m t x y := by
 rw [hSi3tfft_vc]
 exact r_go
theorem hSi3tfff_ok (a : Int) (m : Int) (t : ByteArray) (x : Nd) (y : Nd)  : hSi3tfff ohSi3tfff a m t x y := by
 rw [hSi3tfff_vc]
 exact r_go
theorem hSi3fttt_ok (a : Int) (m : Int) (t : ByteArray) (x : Nd) (y : Nd)  : hSi3fttt ohSi3fttt a m t x y := by
 rw [hSi3fttt_vc]
 exact r_go
theorem hSi3fttf_ok (a : Int) (m : Int) (t : ByteArray) (x : Nd) (y : Nd)  : hSi3fttf ohSi3fttf a m t x y := by
 rw [hSi3fttf_vc]
 exact r_go
theorem hSi3ftft_ok (a : Int) (m : Int) (t : ByteArray) (x : Nd) (y : Nd)  : hSi3ftft ohSi3ftft a m t x y := by
 rw [hSi3ftft_vc]
 exact r_go
theorem hSi3ftff_ok (a : Int) (m : Int) (t : ByteArray) (x : Nd) (y : Nd)  : hSi3ftff ohSi3ftff a m t x y := by
 rw [hSi3ftff_vc]
 exact r_go
theorem hSi3fftt_ok (a : Int) (m : Int) (t : ByteArray) (x : Nd) (y : Nd)  : hSi3fftt ohSi3fftt a m t x y := by
 rw [hSi3fftt_vc]
 exact r_go
theorem hSi3fftf_ok (a : Int) (m : Int) (t : ByteArray) (x : Nd) (y : Nd)  : hSi3fftf ohSi3fftf a m t x y := by
 rw [hSi3fftf_vc]
 exact r_go
theorem hSi3ffft_ok (a : Int) (m : Int) (t : ByteArray) (x : Nd) (y : Nd)  : hSi3ffft ohSi3ffft a m t x y := by
 rw [hSi3ffft_vc]
 exact r_go
theorem hSi3ffff_ok (a : Int) (m : Int) (t : ByteArray) (x : Nd) (y : Nd)  : hSi3ffff ohSi3ffff a m t x y := by
 rw [hSi3ffff_vc]
 exact r_go
theorem hSi4tttt_ok (a : Int) (m : Int) (t : ByteArray) (x : Nd) (y : Nd)  : hSi4tttt ohSi4tttt a m t x y := by
 rw [hSi4tttt_vc]
 exact r_go
theorem hSi4tttf_ok (a : Int) (m : Int) (t : ByteArray) (x : Nd) (y : Nd)  : hSi4tttf ohSi4tttf a m t x y := by
 rw [hSi4tttf_vc]
 exact r_go
theorem hSi4ttft_ok (a : Int) (m : Int) (t : ByteArray) (x : Nd) (y : Nd)  : hSi4ttft ohSi4ttft a m t x y := by
 rw [hSi4ttft_vc]
 exact r_go
theorem hSi4ttff_ok (a : Int) (m : Int) (t : ByteArray) (x : Nd) (y : Nd)  : hSi4ttff ohSi4ttff a m t x y := by
 rw [hSi4ttff_vc]
 exact r_go
theorem hSi4tftt_ok (a : Int) (m : Int) (t : ByteArray) (x : Nd) (y : Nd)  : hSi4tftt ohSi4tftt a m t x y := by
 rw [hSi4tftt_vc]
 exact r_go
theorem hSi4tftf_ok (a : Int) (m : Int) (t : ByteArray) (x : Nd) (y : Nd)  : hSi4tftf ohSi4tftf a m t x y := by
 rw [hSi4tftf_vc]
 exact r_go
theorem hSi4tfft_ok (a : Int) (m : Int) (t : ByteArray) (x : Nd) (y : Nd)  : hSi4tfft ohSi4tfft a m t x y := by
 rw [hSi4tfft_vc]
 exact r_go
theorem hSi4tfff_ok (a : Int) (m : Int) (t : ByteArray) (x : Nd) (y : Nd)  : hSi4tfff ohSi4tfff a m t x y := by
 rw [hSi4tfff_vc]
 exact r_go
theorem hSi4fttt_ok (a : Int) (m : Int) (t : ByteArray) (x : Nd) (y : Nd)  : hSi4fttt ohSi4fttt a m t x y := by
 rw [hSi4fttt_vc]
 exact r_go
theorem hSi4fttf_ok (a : Int) (m : Int) (t : ByteArray) (x : Nd) (y : Nd)  : hSi4fttf ohSi4fttf a m t x y := by
 rw [hSi4fttf_vc]
 exact r_go
theorem hSi4ftft_ok (a : Int) (m : Int) (t : ByteArray) (x : Nd) (y : Nd)  : hSi4ftft ohSi4ftft a m t x y := by
 rw [hSi4ftft_vc]
 exact r_go
theorem hSi4ftff_ok (a : Int) (m : Int) (t : ByteArray) (x : Nd) (y : Nd)  : hSi4ftff ohSi4ftff a m t x y := by
 rw [hSi4ftff_vc]
 exact r_go
theorem hSi4fftt_ok (a : Int) (m : Int) (t : ByteArray) (x : Nd) (y : Nd)  : hSi4fftt ohSi4fftt a m t x y := by
 rw [hSi4fftt_vc]
 exact r_go
theorem hSi4fftf_ok (a : Int) (m : Int) (t : ByteArray) (x : Nd) (y : Nd)  : hSi4fftf ohSi4fftf a m t x y := by
 rw [hSi4fftf_vc]
 exact r_go
theorem hSi4ffft_ok (a : Int) (m : Int) (t : ByteArray) (x : Nd) (y : Nd)  : hSi4ffft ohSi4ffft a m t x y := by
 rw [hSi4ffft_vc]
 exact r_go
theorem hSi4ffff_ok (a : Int) (m : Int) (t : ByteArray) (x : Nd) (y : Nd)  : hSi4ffff ohSi4ffff a m t x y := by
 rw [hSi4ffff_vc]
 exact r_go
theorem hCa_wAnc_ok (a : Int) (m : Int) (x : Nd) (q : Nd)  : hCa_wAnc (Orc.t Orc.z) a m x q := by
 rw [hCa_wAnc_vc]
 exact r_go
theorem hCa_wDesc_ok (a : Int) (m : Int) (x : Nd) (q : Nd)  : hCa_wDesc (Orc.f (Orc.t Orc.z)) a m x q := by
 rw [hCa_wDesc_vc]
 exact r_go
theorem hCa_wHeadsT_ok (a : Int) (m : Int) (x : Nd)  : hCa_wHeadsT ohCa_wHeadsT a m x := by
 rw [hCa_wHeadsT_vc]
 exact r_go
theorem hCa_wHeadsF_ok (a : Int) (m : Int) (x : Nd)  : hCa_wHeadsF ohCa_wHeadsF a m x := by
 rw [hCa_wHeadsF_vc]
 exact r_go
theorem hCa_wRootsT_ok (a : Int) (m : Int) (x : Nd)  : hCa_wRootsT ohCa_wRootsT a m x := by
 rw [hCa_wRootsT_vc]
 exact r_go
theorem hCa_wRootsF_ok (a : Int) (m : Int) (x : Nd)  : hCa_wRootsF ohCa_wRootsF a m x := by
 rw [hCa_wRootsF_vc]
 exact r_go
theorem hCa_wFirstT_ok (a : Int) (m : Int) (x : Nd)  : hCa_wFirstT ohCa_wFirstT a m x := by
 rw [hCa_wFirstT_vc]
 exact r_go
theorem hCa_wFirstF_ok (a : Int) (m : Int) (x : Nd)  : hCa_wFirstF ohCa_wFirstF a m x := by
 rw [hCa_wFirstF_vc]
 exact r_go
theorem hCa_wLastT_ok (a : Int) (m : Int) (x : Nd)  : hCa_wLastT ohCa_wLastT a m x := by
 rw [hCa_wLastT_vc]
 exact r_go
theorem hCa_wLastF_ok (a : Int) (m : Int) (x : Nd)  : hCa_wLastF ohCa_wLastF a m x := by
 rw [hCa_wLastF_vc]
 exact r_go
theorem hCa_wLimitT_ok (a : Int) (m : Int) (x : Nd)  : hCa_wLimitT ohCa_wLimitT a m x := by
 rw [hCa_wLimitT_vc]
 exact r_go
theorem hCa_wLimitF_ok (a : Int) (m : Int) (x : Nd)  : hCa_wLimitF ohCa_wLimitF a m x := by
 rw [hCa_wLimitF_vc]
 exact r_go
theorem hCaO_ok (a : Int) (m : Int) (t : ByteArray) (x : Nd) (c1 : t ≠ wAnc) (c2 : t ≠ wDesc) (c3 : t ≠ wHeads) (c4 : t ≠ wRoots) (c5 : t ≠ wFirst) (c6 : t ≠ wLast) (c7 : t ≠ wLimit) : hCaO ohCaO a m t x := by
 rw [hCaO_vc]
 exact r_go
theorem hOn5A_ok (a : Int) (m : Int) (t : ByteArray) (a2 : Int) (m2 : Int) (t2 : ByteArray) (y : Nd)  : hOn5A (Orc.t (Orc.t Orc.z)) a m t a2 m2 t2 y := by
 rw [hOn5A_vc]
 exact r_go
theorem hOn5B_ok (a : Int) (m : Int) (t : ByteArray) (x : Nd) (h5 : Nd.kind x ≠ 5) : hOn5B (Orc.t (Orc.f Orc.z)) a m t x := by
 rw [hOn5B_vc]
 exact r_go
theorem hOn6_ok (a : Int) (m : Int) (t : ByteArray) (x : Nd) (q : Nd)  : hOn6 (Orc.f (Orc.t (Orc.t Orc.z))) a m t x q := by
 rw [hOn6_vc]
 exact r_go
theorem hOn7_ok (a : Int) (m : Int) (t : ByteArray) (x : Nd) (q : Nd)  : hOn7 (Orc.f (Orc.f (Orc.t Orc.z))) a m t x q := by
 rw [hOn7_vc]
 exact r_go
theorem hOn10V_ok (a : Int) (m : Int) (t : ByteArray) (x : Nd) (q : Nd)  : hOn10V ohOn10V a m t x q := by
 rw [hOn10V_vc]
 exact r_go
theorem hOn10N_ok (a : Int) (m : Int) (t : ByteArray) (x : Nd)  : hOn10N ohOn10N a m t x := by
 rw [hOn10N_vc]
 exact r_go
theorem hOn2T_ok (a : Int) (m : Int) (t : ByteArray) (x : Nd) (y : Nd)  : hOn2T ohOn2T a m t x y := by
 rw [hOn2T_vc]
 exact r_go
theorem hOn2FV_ok (a : Int) (m : Int) (t : ByteArray) (x : Nd) (y : Nd) (q : Nd)  : hOn2FV ohOn2FV a m t x y q := by
 rw [hOn2FV_vc]
 exact r_go
theorem hOn2FN_ok (a : Int) (m : Int) (t : ByteArray) (x : Nd) (y : Nd)  : hOn2FN ohOn2FN a m t x y := by
 rw [hOn2FN_vc]
 exact r_go
theorem hOn4T_ok (a : Int) (m : Int) (t : ByteArray) (x : Nd) (y : Nd)  : hOn4T ohOn4T a m t x y := by
 rw [hOn4T_vc]
 exact r_go
theorem hOn4FV_ok (a : Int) (m : Int) (t : ByteArray) (x : Nd) (y : Nd) (q : Nd)  : hOn4FV ohOn4FV a m t x y q := by
 rw [hOn4FV_vc]
 exact r_go
theorem hOn4FN_ok (a : Int) (m : Int) (t : ByteArray) (x : Nd) (y : Nd)  : hOn4FN ohOn4FN a m t x y := by
 rw [hOn4FN_vc]
 exact r_go
theorem hOn3V_ok (a : Int) (m : Int) (t : ByteArray) (x : Nd) (y : Nd) (q : Nd)  : hOn3V ohOn3V a m t x y q := by
 rw [hOn3V_vc]
 exact r_go
theorem hOn3N_ok (a : Int) (m : Int) (t : ByteArray) (x : Nd) (y : Nd)  : hOn3N ohOn3N a m t x y := by
 rw [hOn3N_vc]
 exact r_go
theorem hOnO2_ok (k : Int) (a : Int) (m : Int) (t : ByteArray) (x : Nd) (y : Nd) (k5 : k ≠ 5) (k6 : k ≠ 6) (k7 : k ≠ 7) (k10 : k ≠ 10) (k4 : k ≠ 4) (k2 : k ≠ 2) (k3 : k ≠ 3) : hOnO2 ohOnO2 k a m t x y := by
 rw [hOnO2_vc]
 exact r_go
theorem hRw1V_ok (k : Int) (a : Int) (m : Int) (t : ByteArray) (x : Nd) (x2 : Nd) (q : Nd)  : hRw1V (Orc.t (Orc.f Orc.z)) k a m t x x2 q := by
 rw [hRw1V_vc]
 exact r_go
theorem hRw1N_ok (k : Int) (a : Int) (m : Int) (t : ByteArray) (x : Nd) (x2 : Nd)  : hRw1N (Orc.t (Orc.f Orc.z)) k a m t x x2 := by
 rw [hRw1N_vc]
 exact r_go
theorem hRw2V_ok (k : Int) (a : Int) (m : Int) (t : ByteArray) (x : Nd) (y : Nd) (x2 : Nd) (y2 : Nd) (q : Nd)  : hRw2V ohRw2V k a m t x y x2 y2 q := by
 rw [hRw2V_vc]
 exact r_go
theorem hRw2N_ok (k : Int) (a : Int) (m : Int) (t : ByteArray) (x : Nd) (y : Nd) (x2 : Nd) (y2 : Nd)  : hRw2N ohRw2N k a m t x y x2 y2 := by
 rw [hRw2N_vc]
 exact r_go
end
end Go.Proofs.YtpofhijgccocpaaGreatDoor
end
section
namespace Go.Proofs.YtpofhijgccocpaaGreatDoor
open Go.AS Go.TP
noncomputable section
abbrev FCall (n : Nd) (w : ByteArray) : Prop := F fCallR [encP n, s0 w] (b0 (callIs n w))
set_option maxRecDepth 100000 in
theorem call_ok (n : Nd) (w : ByteArray) : FCall n w := by
 obtain ⟨k, a, m, t, ks⟩ := n
 refine F_ok (os := Orc.s (Orc.t (Orc.t (Orc.t Orc.z))) (Orc.f (Orc.f (Orc.f Orc.z)))) XB_ok rfl (by kernel_rfl) (by kernel_rfl) (by kernel_rfl) (show gCl _ k a m t (encL ks) w (callIs (.mk k a m t ks) w) from ?_)
 rw [gCl_vc]
 have e : callIs (.mk k a m t ks) w = (decide (k = 10) && decide (t = w)) := rfl
 rw [e]
 refine ⟨fun h => ⟨rfl, rfl, rfl, ?_, .rfl⟩, fun h => ⟨rfl, rfl, rfl, ?_, .rfl⟩⟩
 · rw [decide_eq_true (eqT h), strEq']; exact .refl _
 · rw [decide_eq_false (eqF h)]; exact .refl _
abbrev FHas (n : Nd) : Prop := F fNamedR [encP n] (b0 (hasNames n))
set_option maxRecDepth 100000 in
theorem has_ok (n : Nd) (hr : rightS n = true) (hl : (namesS n).length ≤ 1000000) : FHas n := by
 refine F_ok (X := XB.add fNames (Sp.con [sp1 [encP n] (.lst false 5 (encL (namesS n)))])) (os := Orc.z) (XB_ok.add (conOk1 (s := sp1 [encP n] (.lst false 5 (encL (namesS n)))) fun _ _ => names_ok n hr hl)) rfl (by kernel_rfl) (by kernel_rfl) (by kernel_rfl) (show gNm _ n (encL (namesS n)) (hasNames n) from ?_)
 rw [gNm_vc]
 refine ⟨(), ⟨trivial, .refl _, rfl⟩, .of_eq ?_, .rfl⟩
 have e : hasNames n = decide (0 < (namesS n).length) := rfl
 rw [e, encL_length]
 have : ((((namesS n).length : Nat) : Int) > 0) = (0 < (namesS n).length) := by simp
 simp only [this]
abbrev FInner (x : Nd) (kk : Int) : Prop := F fInnerR [encP x, i0 kk] (encP (innerS x kk))
set_option maxRecDepth 100000 in
theorem inner_ok (x : Nd) (kk : Int) (hk : kk = 6 ∨ kk = 7) (hr : rightS x = true) : FInner x kk := by
 by_cases h : x.kind = kk
 · obtain ⟨k, a, m, t, ks⟩ := x
   have h : k = kk := h
   subst h
   have hk2 := kids_kind hr
   rw [kids_up hk] at hk2
   obtain ⟨y, rfl⟩ := one_kid (ks := ks) (by omega)
   have e : innerS (.mk k a m t [y]) k = y := if_pos rfl
   rw [FInner, e, node1]
   exact F_ok (os := Orc.t Orc.z) XB_ok rfl (by kernel_rfl) (by kernel_rfl) (by kernel_rfl) (gInA_ok k a m t y)
 · have e : innerS x kk = x := if_neg h
   rw [FInner, e]
   exact F_ok (os := Orc.f Orc.z) XB_ok rfl (by kernel_rfl) (by kernel_rfl) (by kernel_rfl) (gInB_ok kk x h)
/-! with a row -/
abbrev FRow (f : Nat) (xs ms : List AV) (r : AV) : Prop := FOk Tryz.prog gl0 f xs (hpN ms) ⟨r, hpN ms, []⟩
attribute [local irreducible] runF in
set_option maxRecDepth 100000 in
theorem hFn {X : WX} (hX : X.Sound) (hp : X.px = X0) {fs : List Nat} {f : Nat} (hs : (Tryz.prog.funcs[f]?).isSome = true) (hb : (fn f).body = some (code f)) (hn : ((fn f).name == "runtime.NumGoroutine") = false) {os : Orc} {xs ms : List AV} {r : AV} (g : gH X fs f os xs ms r) : FRow f xs ms r := by
 have hP : X.px.P = Tryz.prog := by rw [hp]; rfl
 have hg : X.px.gl = gl0 := by rw [hp]; rfl
 have := fn_ok (X := X.ask fs) (d := 12) (hX.ask fs) (f := f) (fn := fn f) (code := code f) (by show X.px.P.funcs[f]? = _; rw [hP]; exact fnOk f hs) hb hn g
 show FOk Tryz.prog gl0 f _ _ _
 rw [← hg, ← hP]; exact this
set_option maxRecDepth 100000 in
theorem as_row (kk : Int) (hk : kk = 6 ∨ kk = 7) (k a m : Int) (t : ByteArray) (x : Nd) (hr : rightS x = true) : FRow fAs [i0 kk, ndS k a m t 1] [encP x] (encP (asS kk (.mk k a m t [x]))) := by
 have e : encP (asS kk (.mk k a m t [x])) = ndV kk a 0 ByteArray.empty [encP (innerS x kk)] := node1 ..
 rw [e]
 exact hFn (X := XB.add fInnerR (Sp.con [sp1 [encP x, i0 kk] (encP (innerS x kk))])) (os := Orc.z) (XB_ok.add (conOk1 (s := sp1 [encP x, i0 kk] (encP (innerS x kk))) fun _ _ => inner_ok x kk hk hr)) rfl (by kernel_rfl) (by kernel_rfl) (by kernel_rfl) (hAs_ok kk k a m t x (innerS x kk))
/-- A function's answer is a value, or the node that it was handed. -/
def Out (f : Nat) (k a m : Int) (t : ByteArray) (ks : List Nd) (q : Nd) : Prop := FRow f [ndS k a m t ks.length] (encL ks) (encP q) ∨ (q = .mk k a m t ks ∧ FRow f [ndS k a m t ks.length] (encL ks) (ndS k a m t ks.length))
theorem XSi_ok {x y : Nd} {l r nx ny : Bool} (h1 : F fCallR [encP x, s0 wNone] (b0 l)) (h2 : F fCallR [encP y, s0 wNone] (b0 r)) (h3 : F fNamedR [encP x] (b0 nx)) (h4 : F fNamedR [encP y] (b0 ny)) : (XSi x y l r nx ny).Sound :=
 (XB_ok.add (conOk2 (s := sp1 [encP x, s0 wNone] (b0 l)) (t := sp1 [encP y, s0 wNone] (b0 r)) (fun _ _ => h1) (fun _ _ => h2))).add (conOk2 (s := sp1 [encP x] (b0 nx)) (t := sp1 [encP y] (b0 ny)) (fun _ _ => h3) (fun _ _ => h4))
set_option maxRecDepth 100000 in
theorem siFn {X : WX} (hX : X.Sound) (hp : X.px = X0) {os : Orc} {xs ms : List AV} {r : AV} (g : gH X [fSided] fSided os xs ms r) : FRow fSided xs ms r := hFn hX hp (by kernel_rfl) (by kernel_rfl) (by kernel_rfl) g
theorem sided_eq (k a m : Int) (t : ByteArray) (x y : Nd) : sidedS (.mk k a m t [x, y]) = if k ≠ 2 ∧ callIs x wNone = true ∧ hasNames y = false then x else if k = 4 ∧ callIs y wNone = true ∧ hasNames x = false then y else if k = 2 ∧ callIs x wNone = true then y else if k ≠ 4 ∧ callIs y wNone = true then x else .mk k a m t [x, y] := rfl
attribute [local irreducible] runF in
set_option maxHeartbeats 1000000 in
set_option maxRecDepth 100000 in
theorem sided_row2 (a m : Int) (t : ByteArray) (x y : Nd) (hx : rightS x = true) (hy : rightS y = true) (lx : (namesS x).length ≤ 1000000) (ly : (namesS y).length ≤ 1000000) : Out fSided 2 a m t [x, y] (sidedS (.mk 2 a m t [x, y])) := by
 have c1 := call_ok x wNone
 have c2 := call_ok y wNone
 have c3 := has_ok x hx lx
 have c4 := has_ok y hy ly
 rw [sided_eq]
 unfold Out
 rw [encL_two]
 show FRow fSided [ndS 2 a m t 2] _ _ ∨ _
 unfold FCall at c1 c2
 unfold FHas at c3 c4
 generalize callIs x wNone = bl at c1 ⊢
 generalize callIs y wNone = br at c2 ⊢
 generalize hasNames x = bx at c3 ⊢
 generalize hasNames y = by' at c4 ⊢
 cases bl <;> cases br <;> cases bx <;> cases by'
 · exact .inr ⟨rfl, siFn (X := XSi x y false false false false) (os := Orc.alt 0 (Orc.alt 1 (Orc.f (Orc.f (Orc.f (Orc.f (Orc.f (Orc.f (Orc.f (Orc.f (Orc.f (Orc.f (Orc.t (Orc.f (Orc.t (Orc.f Orc.z)))))))))))))))) (XSi_ok c1 c2 c3 c4) rfl (hSi2ffff_ok a m t x y)⟩
 · exact .inr ⟨rfl, siFn (X := XSi x y false false false true) (os := Orc.alt 0 (Orc.alt 1 (Orc.f (Orc.f (Orc.f (Orc.f (Orc.f (Orc.f (Orc.f (Orc.f (Orc.f (Orc.f (Orc.t (Orc.f (Orc.t (Orc.f Orc.z)))))))))))))))) (XSi_ok c1 c2 c3 c4) rfl (hSi2ffft_ok a m t x y)⟩
 · exact .inr ⟨rfl, siFn (X := XSi x y false false true false) (os := Orc.alt 0 (Orc.alt 1 (Orc.f (Orc.f (Orc.f (Orc.f (Orc.f (Orc.f (Orc.f (Orc.f (Orc.f (Orc.f (Orc.t (Orc.f (Orc.t (Orc.f Orc.z)))))))))))))))) (XSi_ok c1 c2 c3 c4) rfl (hSi2fftf_ok a m t x y)⟩
 · exact .inr ⟨rfl, siFn (X := XSi x y false false true true) (os := Orc.alt 0 (Orc.alt 1 (Orc.f (Orc.f (Orc.f (Orc.f (Orc.f (Orc.f (Orc.f (Orc.f (Orc.f (Orc.f (Orc.t (Orc.f (Orc.t (Orc.f Orc.z)))))))))))))))) (XSi_ok c1 c2 c3 c4) rfl (hSi2fftt_ok a m t x y)⟩
 · exact .inl (siFn (X := XSi x y false true false false) (os := Orc.alt 0 (Orc.alt 1 (Orc.f (Orc.f (Orc.f (Orc.f (Orc.f (Orc.f (Orc.f (Orc.f (Orc.f (Orc.f (Orc.t (Orc.f (Orc.t (Orc.t Orc.z)))))))))))))))) (XSi_ok c1 c2 c3 c4) rfl (hSi2ftff_ok a m t x y))
 · exact .inl (siFn (X := XSi x y false true false true) (os := Orc.alt 0 (Orc.alt 1 (Orc.f (Orc.f (Orc.f (Orc.f (Orc.f (Orc.f (Orc.f (Orc.f (Orc.f (Orc.f (Orc.t (Orc.f (Orc.t (Orc.t Orc.z)))))))))))))))) (XSi_ok c1 c2 c3 c4) rfl (hSi2ftft_ok a m t x y))
 · exact .inl (siFn (X := XSi x y false true true false) (os := Orc.alt 0 (Orc.alt 1 (Orc.f (Orc.f (Orc.f (Orc.f (Orc.f (Orc.f (Orc.f (Orc.f (Orc.f (Orc.f (Orc.t (Orc.f (Orc.t (Orc.t Orc.z)))))))))))))))) (XSi_ok c1 c2 c3 c4) rfl (hSi2fttf_ok a m t x y))
 · exact .inl (siFn (X := XSi x y false true true true) (os := Orc.alt 0 (Orc.alt 1 (Orc.f (Orc.f (Orc.f (Orc.f (Orc.f (Orc.f (Orc.f (Orc.f (Orc.f (Orc.f (Orc.t (Orc.f (Orc.t (Orc.t Orc.z)))))))))))))))) (XSi_ok c1 c2 c3 c4) rfl (hSi2fttt_ok a m t x y))
 · exact .inl (siFn (X := XSi x y true false false false) (os := Orc.alt 0 (Orc.alt 1 (Orc.f (Orc.f (Orc.f (Orc.f (Orc.f (Orc.f (Orc.f (Orc.f (Orc.f (Orc.f (Orc.t (Orc.t Orc.z)))))))))))))) (XSi_ok c1 c2 c3 c4) rfl (hSi2tfff_ok a m t x y))
 · exact .inl (siFn (X := XSi x y true false false true) (os := Orc.alt 0 (Orc.alt 1 (Orc.f (Orc.f (Orc.f (Orc.f (Orc.f (Orc.f (Orc.f (Orc.f (Orc.f (Orc.f (Orc.t (Orc.t Orc.z)))))))))))))) (XSi_ok c1 c2 c3 c4) rfl (hSi2tfft_ok a m t x y))
 · exact .inl (siFn (X := XSi x y true false true false) (os := Orc.alt 0 (Orc.alt 1 (Orc.f (Orc.f (Orc.f (Orc.f (Orc.f (Orc.f (Orc.f (Orc.f (Orc.f (Orc.f (Orc.t (Orc.t Orc.z)))))))))))))) (XSi_ok c1 c2 c3 c4) rfl (hSi2tftf_ok a m t x y))
 · exact .inl (siFn (X := XSi x y true false true true) (os := Orc.alt 0 (Orc.alt 1 (Orc.f (Orc.f (Orc.f (Orc.f (Orc.f (Orc.f (Orc.f (Orc.f (Orc.f (Orc.f (Orc.t (Orc.t Orc.z)))))))))))))) (XSi_ok c1 c2 c3 c4) rfl (hSi2tftt_ok a m t x y))
 · exact .inl (siFn (X := XSi x y true true false false) (os := Orc.alt 0 (Orc.alt 1 (Orc.f (Orc.f (Orc.f (Orc.f (Orc.f (Orc.f (Orc.f (Orc.f (Orc.f (Orc.f (Orc.t (Orc.t Orc.z)))))))))))))) (XSi_ok c1 c2 c3 c4) rfl (hSi2ttff_ok a m t x y))
 · exact .inl (siFn (X := XSi x y true true false true) (os := Orc.alt 0 (Orc.alt 1 (Orc.f (Orc.f (Orc.f (Orc.f (Orc.f (Orc.f (Orc.f (Orc.f (Orc.f (Orc.f (Orc.t (Orc.t Orc.z)))))))))))))) (XSi_ok c1 c2 c3 c4) rfl (hSi2ttft_ok a m t x y))
 · exact .inl (siFn (X := XSi x y true true true false) (os := Orc.alt 0 (Orc.alt 1 (Orc.f (Orc.f (Orc.f (Orc.f (Orc.f (Orc.f (Orc.f (Orc.f (Orc.f (Orc.f (Orc.t (Orc.t Orc.z)))))))))))))) (XSi_ok c1 c2 c3 c4) rfl (hSi2tttf_ok a m t x y))
 · exact .inl (siFn (X := XSi x y true true true true) (os := Orc.alt 0 (Orc.alt 1 (Orc.f (Orc.f (Orc.f (Orc.f (Orc.f (Orc.f (Orc.f (Orc.f (Orc.f (Orc.f (Orc.t (Orc.t Orc.z)))))))))))))) (XSi_ok c1 c2 c3 c4) rfl (hSi2tttt_ok a m t x y))
attribute [local irreducible] runF in
set_option maxHeartbeats 1000000 in
set_option maxRecDepth 100000 in
theorem sided_row3 (a m : Int) (t : ByteArray) (x y : Nd) (hx : rightS x = true) (hy : rightS y = true) (lx : (namesS x).length ≤ 1000000) (ly : (namesS y).length ≤ 1000000) : Out fSided 3 a m t [x, y] (sidedS (.mk 3 a m t [x, y])) := by
 have c1 := call_ok x wNone
 have c2 := call_ok y wNone
 have c3 := has_ok x hx lx
 have c4 := has_ok y hy ly
 rw [sided_eq]
 unfold Out
 rw [encL_two]
 show FRow fSided [ndS 3 a m t 2] _ _ ∨ _
 unfold FCall at c1 c2
 unfold FHas at c3 c4
 generalize callIs x wNone = bl at c1 ⊢
 generalize callIs y wNone = br at c2 ⊢
 generalize hasNames x = bx at c3 ⊢
 generalize hasNames y = by' at c4 ⊢
 cases bl <;> cases br <;> cases bx <;> cases by'
 · exact .inr ⟨rfl, siFn (X := XSi x y false false false false) (os := Orc.alt 0 (Orc.alt 1 (Orc.t (Orc.f (Orc.f (Orc.f (Orc.f (Orc.f (Orc.f (Orc.f (Orc.f (Orc.f (Orc.f (Orc.f (Orc.t (Orc.f Orc.z)))))))))))))))) (XSi_ok c1 c2 c3 c4) rfl (hSi3ffff_ok a m t x y)⟩
 · exact .inr ⟨rfl, siFn (X := XSi x y false false false true) (os := Orc.alt 0 (Orc.alt 1 (Orc.t (Orc.f (Orc.f (Orc.f (Orc.f (Orc.f (Orc.f (Orc.f (Orc.f (Orc.f (Orc.f (Orc.f (Orc.t (Orc.f Orc.z)))))))))))))))) (XSi_ok c1 c2 c3 c4) rfl (hSi3ffft_ok a m t x y)⟩
 · exact .inr ⟨rfl, siFn (X := XSi x y false false true false) (os := Orc.alt 0 (Orc.alt 1 (Orc.t (Orc.f (Orc.f (Orc.f (Orc.f (Orc.f (Orc.f (Orc.f (Orc.f (Orc.f (Orc.f (Orc.f (Orc.t (Orc.f Orc.z)))))))))))))))) (XSi_ok c1 c2 c3 c4) rfl (hSi3fftf_ok a m t x y)⟩
 · exact .inr ⟨rfl, siFn (X := XSi x y false false true true) (os := Orc.alt 0 (Orc.alt 1 (Orc.t (Orc.f (Orc.f (Orc.f (Orc.f (Orc.f (Orc.f (Orc.f (Orc.f (Orc.f (Orc.f (Orc.f (Orc.t (Orc.f Orc.z)))))))))))))))) (XSi_ok c1 c2 c3 c4) rfl (hSi3fftt_ok a m t x y)⟩
 · exact .inl (siFn (X := XSi x y false true false false) (os := Orc.alt 0 (Orc.alt 1 (Orc.t (Orc.f (Orc.f (Orc.f (Orc.f (Orc.f (Orc.f (Orc.f (Orc.f (Orc.f (Orc.f (Orc.f (Orc.t (Orc.t Orc.z)))))))))))))))) (XSi_ok c1 c2 c3 c4) rfl (hSi3ftff_ok a m t x y))
 · exact .inl (siFn (X := XSi x y false true false true) (os := Orc.alt 0 (Orc.alt 1 (Orc.t (Orc.f (Orc.f (Orc.f (Orc.f (Orc.f (Orc.f (Orc.f (Orc.f (Orc.f (Orc.f (Orc.f (Orc.t (Orc.t Orc.z)))))))))))))))) (XSi_ok c1 c2 c3 c4) rfl (hSi3ftft_ok a m t x y))
 · exact .inl (siFn (X := XSi x y false true true false) (os := Orc.alt 0 (Orc.alt 1 (Orc.t (Orc.f (Orc.f (Orc.f (Orc.f (Orc.f (Orc.f (Orc.f (Orc.f (Orc.f (Orc.f (Orc.f (Orc.t (Orc.t Orc.z)))))))))))))))) (XSi_ok c1 c2 c3 c4) rfl (hSi3fttf_ok a m t x y))
 · exact .inl (siFn (X := XSi x y false true true true) (os := Orc.alt 0 (Orc.alt 1 (Orc.t (Orc.f (Orc.f (Orc.f (Orc.f (Orc.f (Orc.f (Orc.f (Orc.f (Orc.f (Orc.f (Orc.f (Orc.t (Orc.t Orc.z)))))))))))))))) (XSi_ok c1 c2 c3 c4) rfl (hSi3fttt_ok a m t x y))
 · exact .inl (siFn (X := XSi x y true false false false) (os := Orc.alt 0 (Orc.alt 1 (Orc.t (Orc.t (Orc.t (Orc.alt 1 (Orc.t (Orc.t Orc.z)))))))) (XSi_ok c1 c2 c3 c4) rfl (hSi3tfff_ok a m t x y))
 · exact .inr ⟨rfl, siFn (X := XSi x y true false false true) (os := Orc.alt 0 (Orc.alt 1 (Orc.t (Orc.t (Orc.t (Orc.alt 1 (Orc.t (Orc.f (Orc.f (Orc.f (Orc.f (Orc.f (Orc.f (Orc.f (Orc.f (Orc.t (Orc.f Orc.z))))))))))))))))) (XSi_ok c1 c2 c3 c4) rfl (hSi3tfft_ok a m t x y)⟩
 · exact .inl (siFn (X := XSi x y true false true false) (os := Orc.alt 0 (Orc.alt 1 (Orc.t (Orc.t (Orc.t (Orc.alt 1 (Orc.t (Orc.t Orc.z)))))))) (XSi_ok c1 c2 c3 c4) rfl (hSi3tftf_ok a m t x y))
 · exact .inr ⟨rfl, siFn (X := XSi x y true false true true) (os := Orc.alt 0 (Orc.alt 1 (Orc.t (Orc.t (Orc.t (Orc.alt 1 (Orc.t (Orc.f (Orc.f (Orc.f (Orc.f (Orc.f (Orc.f (Orc.f (Orc.f (Orc.t (Orc.f Orc.z))))))))))))))))) (XSi_ok c1 c2 c3 c4) rfl (hSi3tftt_ok a m t x y)⟩
 · exact .inl (siFn (X := XSi x y true true false false) (os := Orc.alt 0 (Orc.alt 1 (Orc.t (Orc.t (Orc.t (Orc.alt 1 (Orc.t (Orc.t Orc.z)))))))) (XSi_ok c1 c2 c3 c4) rfl (hSi3ttff_ok a m t x y))
 · exact .inl (siFn (X := XSi x y true true false true) (os := Orc.alt 0 (Orc.alt 1 (Orc.t (Orc.t (Orc.t (Orc.alt 1 (Orc.t (Orc.f (Orc.f (Orc.f (Orc.f (Orc.f (Orc.f (Orc.f (Orc.f (Orc.t (Orc.t Orc.z))))))))))))))))) (XSi_ok c1 c2 c3 c4) rfl (hSi3ttft_ok a m t x y))
 · exact .inl (siFn (X := XSi x y true true true false) (os := Orc.alt 0 (Orc.alt 1 (Orc.t (Orc.t (Orc.t (Orc.alt 1 (Orc.t (Orc.t Orc.z)))))))) (XSi_ok c1 c2 c3 c4) rfl (hSi3tttf_ok a m t x y))
 · exact .inl (siFn (X := XSi x y true true true true) (os := Orc.alt 0 (Orc.alt 1 (Orc.t (Orc.t (Orc.t (Orc.alt 1 (Orc.t (Orc.f (Orc.f (Orc.f (Orc.f (Orc.f (Orc.f (Orc.f (Orc.f (Orc.t (Orc.t Orc.z))))))))))))))))) (XSi_ok c1 c2 c3 c4) rfl (hSi3tttt_ok a m t x y))
attribute [local irreducible] runF in
set_option maxHeartbeats 1000000 in
set_option maxRecDepth 100000 in
theorem sided_row4 (a m : Int) (t : ByteArray) (x y : Nd) (hx : rightS x = true) (hy : rightS y = true) (lx : (namesS x).length ≤ 1000000) (ly : (namesS y).length ≤ 1000000) : Out fSided 4 a m t [x, y] (sidedS (.mk 4 a m t [x, y])) := by
 have c1 := call_ok x wNone
 have c2 := call_ok y wNone
 have c3 := has_ok x hx lx
 have c4 := has_ok y hy ly
 rw [sided_eq]
 unfold Out
 rw [encL_two]
 show FRow fSided [ndS 4 a m t 2] _ _ ∨ _
 unfold FCall at c1 c2
 unfold FHas at c3 c4
 generalize callIs x wNone = bl at c1 ⊢
 generalize callIs y wNone = br at c2 ⊢
 generalize hasNames x = bx at c3 ⊢
 generalize hasNames y = by' at c4 ⊢
 cases bl <;> cases br <;> cases bx <;> cases by'
 · exact .inr ⟨rfl, siFn (X := XSi x y false false false false) (os := Orc.alt 0 (Orc.alt 1 (Orc.t (Orc.f (Orc.f (Orc.f (Orc.f (Orc.t (Orc.f (Orc.f (Orc.f (Orc.f (Orc.f (Orc.f (Orc.f (Orc.f Orc.z)))))))))))))))) (XSi_ok c1 c2 c3 c4) rfl (hSi4ffff_ok a m t x y)⟩
 · exact .inr ⟨rfl, siFn (X := XSi x y false false false true) (os := Orc.alt 0 (Orc.alt 1 (Orc.t (Orc.f (Orc.f (Orc.f (Orc.f (Orc.t (Orc.f (Orc.f (Orc.f (Orc.f (Orc.f (Orc.f (Orc.f (Orc.f Orc.z)))))))))))))))) (XSi_ok c1 c2 c3 c4) rfl (hSi4ffft_ok a m t x y)⟩
 · exact .inr ⟨rfl, siFn (X := XSi x y false false true false) (os := Orc.alt 0 (Orc.alt 1 (Orc.t (Orc.f (Orc.f (Orc.f (Orc.f (Orc.t (Orc.f (Orc.f (Orc.f (Orc.f (Orc.f (Orc.f (Orc.f (Orc.f Orc.z)))))))))))))))) (XSi_ok c1 c2 c3 c4) rfl (hSi4fftf_ok a m t x y)⟩
 · exact .inr ⟨rfl, siFn (X := XSi x y false false true true) (os := Orc.alt 0 (Orc.alt 1 (Orc.t (Orc.f (Orc.f (Orc.f (Orc.f (Orc.t (Orc.f (Orc.f (Orc.f (Orc.f (Orc.f (Orc.f (Orc.f (Orc.f Orc.z)))))))))))))))) (XSi_ok c1 c2 c3 c4) rfl (hSi4fftt_ok a m t x y)⟩
 · exact .inl (siFn (X := XSi x y false true false false) (os := Orc.alt 0 (Orc.alt 1 (Orc.t (Orc.f (Orc.f (Orc.f (Orc.f (Orc.t (Orc.t (Orc.t (Orc.alt 0 (Orc.t (Orc.t Orc.z))))))))))))) (XSi_ok c1 c2 c3 c4) rfl (hSi4ftff_ok a m t x y))
 · exact .inl (siFn (X := XSi x y false true false true) (os := Orc.alt 0 (Orc.alt 1 (Orc.t (Orc.f (Orc.f (Orc.f (Orc.f (Orc.t (Orc.t (Orc.t (Orc.alt 0 (Orc.t (Orc.t Orc.z))))))))))))) (XSi_ok c1 c2 c3 c4) rfl (hSi4ftft_ok a m t x y))
 · exact .inr ⟨rfl, siFn (X := XSi x y false true true false) (os := Orc.alt 0 (Orc.alt 1 (Orc.t (Orc.f (Orc.f (Orc.f (Orc.f (Orc.t (Orc.t (Orc.t (Orc.alt 0 (Orc.t (Orc.f (Orc.f (Orc.f (Orc.f (Orc.f Orc.z))))))))))))))))) (XSi_ok c1 c2 c3 c4) rfl (hSi4fttf_ok a m t x y)⟩
 · exact .inr ⟨rfl, siFn (X := XSi x y false true true true) (os := Orc.alt 0 (Orc.alt 1 (Orc.t (Orc.f (Orc.f (Orc.f (Orc.f (Orc.t (Orc.t (Orc.t (Orc.alt 0 (Orc.t (Orc.f (Orc.f (Orc.f (Orc.f (Orc.f Orc.z))))))))))))))))) (XSi_ok c1 c2 c3 c4) rfl (hSi4fttt_ok a m t x y)⟩
 · exact .inl (siFn (X := XSi x y true false false false) (os := Orc.alt 0 (Orc.alt 1 (Orc.t (Orc.t (Orc.t (Orc.alt 1 (Orc.t (Orc.t Orc.z)))))))) (XSi_ok c1 c2 c3 c4) rfl (hSi4tfff_ok a m t x y))
 · exact .inr ⟨rfl, siFn (X := XSi x y true false false true) (os := Orc.alt 0 (Orc.alt 1 (Orc.t (Orc.t (Orc.t (Orc.alt 1 (Orc.t (Orc.f (Orc.t (Orc.f (Orc.f (Orc.f (Orc.f (Orc.f (Orc.f (Orc.f (Orc.f Orc.z))))))))))))))))) (XSi_ok c1 c2 c3 c4) rfl (hSi4tfft_ok a m t x y)⟩
 · exact .inl (siFn (X := XSi x y true false true false) (os := Orc.alt 0 (Orc.alt 1 (Orc.t (Orc.t (Orc.t (Orc.alt 1 (Orc.t (Orc.t Orc.z)))))))) (XSi_ok c1 c2 c3 c4) rfl (hSi4tftf_ok a m t x y))
 · exact .inr ⟨rfl, siFn (X := XSi x y true false true true) (os := Orc.alt 0 (Orc.alt 1 (Orc.t (Orc.t (Orc.t (Orc.alt 1 (Orc.t (Orc.f (Orc.t (Orc.f (Orc.f (Orc.f (Orc.f (Orc.f (Orc.f (Orc.f (Orc.f Orc.z))))))))))))))))) (XSi_ok c1 c2 c3 c4) rfl (hSi4tftt_ok a m t x y)⟩
 · exact .inl (siFn (X := XSi x y true true false false) (os := Orc.alt 0 (Orc.alt 1 (Orc.t (Orc.t (Orc.t (Orc.alt 1 (Orc.t (Orc.t Orc.z)))))))) (XSi_ok c1 c2 c3 c4) rfl (hSi4ttff_ok a m t x y))
 · exact .inl (siFn (X := XSi x y true true false true) (os := Orc.alt 0 (Orc.alt 1 (Orc.t (Orc.t (Orc.t (Orc.alt 1 (Orc.t (Orc.f (Orc.t (Orc.t (Orc.t (Orc.alt 0 (Orc.t (Orc.t Orc.z)))))))))))))) (XSi_ok c1 c2 c3 c4) rfl (hSi4ttft_ok a m t x y))
 · exact .inl (siFn (X := XSi x y true true true false) (os := Orc.alt 0 (Orc.alt 1 (Orc.t (Orc.t (Orc.t (Orc.alt 1 (Orc.t (Orc.t Orc.z)))))))) (XSi_ok c1 c2 c3 c4) rfl (hSi4tttf_ok a m t x y))
 · exact .inr ⟨rfl, siFn (X := XSi x y true true true true) (os := Orc.alt 0 (Orc.alt 1 (Orc.t (Orc.t (Orc.t (Orc.alt 1 (Orc.t (Orc.f (Orc.t (Orc.t (Orc.t (Orc.alt 0 (Orc.t (Orc.f (Orc.f (Orc.f (Orc.f (Orc.f Orc.z)))))))))))))))))) (XSi_ok c1 c2 c3 c4) rfl (hSi4tttt_ok a m t x y)⟩
end
end Go.Proofs.YtpofhijgccocpaaGreatDoor
end
section
namespace Go.Proofs.YtpofhijgccocpaaGreatDoor
open Go.AS Go.TP
noncomputable section
set_option maxRecDepth 100000 in
theorem caFn {X : WX} (hX : X.Sound) (hp : X.px = X0) {os : Orc} {xs ms : List AV} {r : AV} (g : gH X [fCalled] fCalled os xs ms r) : FRow fCalled xs ms r := hFn hX hp (by kernel_rfl) (by kernel_rfl) (by kernel_rfl) g
set_option maxRecDepth 100000 in
theorem caF0 {X : WX} (hX : X.Sound) (hp : X.px = X0) {os : Orc} {xs : List AV} {r : AV} (g : gF X [fCalled] fCalled os xs r) : F fCalled xs r := F_ok hX hp (by kernel_rfl) (by kernel_rfl) (by kernel_rfl) g
set_option maxRecDepth 100000 in
theorem onFn {X : WX} (hX : X.Sound) (hp : X.px = X0) {os : Orc} {xs ms : List AV} {r : AV} (g : gH X [fOnce] fOnce os xs ms r) : FRow fOnce xs ms r := hFn hX hp (by kernel_rfl) (by kernel_rfl) (by kernel_rfl) g
set_option maxRecDepth 100000 in
theorem onF0 {X : WX} (hX : X.Sound) (hp : X.px = X0) {os : Orc} {xs : List AV} {r : AV} (g : gF X [fOnce] fOnce os xs r) : F fOnce xs r := F_ok hX hp (by kernel_rfl) (by kernel_rfl) (by kernel_rfl) g
theorem row1 {f : Nat} {xs ms : List AV} {r : AV} (h : FRow f xs ms r) : ConOk Tryz.prog gl0 f (Sp.con [sp2 xs ms r]) := conOk1 (s := sp2 xs ms r) fun _ _ => h
theorem val1 {f : Nat} {xs : List AV} {r : AV} (h : F f xs r) : ConOk Tryz.prog gl0 f (Sp.con [sp1 xs r]) := conOk1 (s := sp1 xs r) fun _ _ => h
theorem called_eq (a m : Int) (t : ByteArray) (x : Nd) : calledS (.mk 10 a m t [x]) = if t = wAnc then asS 6 (.mk 10 a m t [x]) else if t = wDesc then asS 7 (.mk 10 a m t [x]) else if t = wHeads ∨ t = wRoots then (if callIs x t then x else .mk 10 a m t [x]) else if t = wFirst ∨ t = wLast ∨ t = wLimit then (if callIs x wNone then x else .mk 10 a m t [x]) else .mk 10 a m t [x] := rfl
attribute [local irreducible] runF in
set_option maxHeartbeats 1000000 in
set_option maxRecDepth 100000 in
theorem called_row (a m : Int) (t : ByteArray) (x : Nd) (hr : rightS x = true) : Out fCalled 10 a m t [x] (calledS (.mk 10 a m t [x])) := by
 rw [called_eq]
 unfold Out
 rw [encL_one]
 show FRow fCalled [ndS 10 a m t 1] _ _ ∨ _
 by_cases h : t = wAnc
 · rw [if_pos h]; subst h
   have c := as_row 6 (by decide) 10 a m wAnc x hr
   generalize asS 6 (.mk 10 a m wAnc [x]) = q at c ⊢
   exact .inl (caFn (X := XB.add fAs (Sp.con [sp2 [i0 6, ndS 10 a m wAnc 1] [encP x] (encP q)])) (os := (Orc.t Orc.z)) (XB_ok.add (row1 c)) rfl (hCa_wAnc_ok a m x q))
 rw [if_neg h]; have n6 := h; clear h
 by_cases h : t = wDesc
 · rw [if_pos h]; subst h
   have c := as_row 7 (by decide) 10 a m wDesc x hr
   generalize asS 7 (.mk 10 a m wDesc [x]) = q at c ⊢
   exact .inl (caFn (X := XB.add fAs (Sp.con [sp2 [i0 7, ndS 10 a m wDesc 1] [encP x] (encP q)])) (os := (Orc.f (Orc.t Orc.z))) (XB_ok.add (row1 c)) rfl (hCa_wDesc_ok a m x q))
 rw [if_neg h]; have n7 := h; clear h
 by_cases h : t = wHeads ∨ t = wRoots
 · rw [if_pos h]
   rcases h with rfl | rfl
   · have c := call_ok x wHeads
     unfold FCall at c
     generalize callIs x wHeads = b at c ⊢
     cases b
     · exact .inr ⟨rfl, caFn (X := XB.add fCallR (Sp.con [sp1 [encP x, s0 wHeads] (b0 false)])) (os := (Orc.f (Orc.f (Orc.t (Orc.t (Orc.f Orc.z)))))) (XB_ok.add (val1 c)) rfl (hCa_wHeadsF_ok a m x)⟩
     · exact .inl (caFn (X := XB.add fCallR (Sp.con [sp1 [encP x, s0 wHeads] (b0 true)])) (os := (Orc.f (Orc.f (Orc.t (Orc.t (Orc.t Orc.z)))))) (XB_ok.add (val1 c)) rfl (hCa_wHeadsT_ok a m x))
   · have c := call_ok x wRoots
     unfold FCall at c
     generalize callIs x wRoots = b at c ⊢
     cases b
     · exact .inr ⟨rfl, caFn (X := XB.add fCallR (Sp.con [sp1 [encP x, s0 wRoots] (b0 false)])) (os := (Orc.f (Orc.f (Orc.f (Orc.t (Orc.f Orc.z)))))) (XB_ok.add (val1 c)) rfl (hCa_wRootsF_ok a m x)⟩
     · exact .inl (caFn (X := XB.add fCallR (Sp.con [sp1 [encP x, s0 wRoots] (b0 true)])) (os := (Orc.f (Orc.f (Orc.f (Orc.t (Orc.t Orc.z)))))) (XB_ok.add (val1 c)) rfl (hCa_wRootsT_ok a m x))
 rw [if_neg h]; have nh := h; clear h
 by_cases h : t = wFirst ∨ t = wLast ∨ t = wLimit
 · rw [if_pos h]
   rcases h with rfl | rfl | rfl
   · have c := call_ok x wNone
     unfold FCall at c
     generalize callIs x wNone = b at c ⊢
     cases b
     · exact .inr ⟨rfl, caFn (X := XB.add fCallR (Sp.con [sp1 [encP x, s0 wNone] (b0 false)])) (os := (Orc.f (Orc.f (Orc.f (Orc.f (Orc.t (Orc.t (Orc.f Orc.z)))))))) (XB_ok.add (val1 c)) rfl (hCa_wFirstF_ok a m x)⟩
     · exact .inl (caFn (X := XB.add fCallR (Sp.con [sp1 [encP x, s0 wNone] (b0 true)])) (os := (Orc.f (Orc.f (Orc.f (Orc.f (Orc.t (Orc.t (Orc.t Orc.z)))))))) (XB_ok.add (val1 c)) rfl (hCa_wFirstT_ok a m x))
   · have c := call_ok x wNone
     unfold FCall at c
     generalize callIs x wNone = b at c ⊢
     cases b
     · exact .inr ⟨rfl, caFn (X := XB.add fCallR (Sp.con [sp1 [encP x, s0 wNone] (b0 false)])) (os := (Orc.f (Orc.f (Orc.f (Orc.f (Orc.f (Orc.t (Orc.t (Orc.f Orc.z))))))))) (XB_ok.add (val1 c)) rfl (hCa_wLastF_ok a m x)⟩
     · exact .inl (caFn (X := XB.add fCallR (Sp.con [sp1 [encP x, s0 wNone] (b0 true)])) (os := (Orc.f (Orc.f (Orc.f (Orc.f (Orc.f (Orc.t (Orc.t (Orc.t Orc.z))))))))) (XB_ok.add (val1 c)) rfl (hCa_wLastT_ok a m x))
   · have c := call_ok x wNone
     unfold FCall at c
     generalize callIs x wNone = b at c ⊢
     cases b
     · exact .inr ⟨rfl, caFn (X := XB.add fCallR (Sp.con [sp1 [encP x, s0 wNone] (b0 false)])) (os := (Orc.f (Orc.f (Orc.f (Orc.f (Orc.f (Orc.f (Orc.t (Orc.f Orc.z))))))))) (XB_ok.add (val1 c)) rfl (hCa_wLimitF_ok a m x)⟩
     · exact .inl (caFn (X := XB.add fCallR (Sp.con [sp1 [encP x, s0 wNone] (b0 true)])) (os := (Orc.f (Orc.f (Orc.f (Orc.f (Orc.f (Orc.f (Orc.t (Orc.t Orc.z))))))))) (XB_ok.add (val1 c)) rfl (hCa_wLimitT_ok a m x))
 rw [if_neg h]; have nf := h; clear h
 exact .inr ⟨rfl, caFn (os := (Orc.f (Orc.f (Orc.f (Orc.f (Orc.f (Orc.f (Orc.f Orc.z)))))))) XB_ok rfl (hCaO_ok a m t x n6 n7 (fun e => nh (.inl e)) (fun e => nh (.inr e)) (fun e => nf (.inl e)) (fun e => nf (.inr (.inl e))) (fun e => nf (.inr (.inr e))))⟩
attribute [local irreducible] runF in
set_option maxHeartbeats 1000000 in
set_option maxRecDepth 100000 in
theorem once1 (k a m : Int) (t : ByteArray) (x : Nd) (hr : rightS (.mk k a m t [x]) = true) : Out fOnce k a m t [x] (onceS (.mk k a m t [x])) := by
 have hk := kids_kind hr
 have hx := hk.2.2 x (List.mem_singleton.2 rfl)
 show Out fOnce k a m t [x] (onceK k (.mk k a m t [x]))
 unfold onceK
 by_cases h : k = 5
 · rw [if_pos h]; subst h
   show Out fOnce 5 a m t [x] (if x.kind = 5 then x.kid 0 else _)
   by_cases h5 : x.kind = 5
   · rw [if_pos h5]
     obtain ⟨k2, a2, m2, t2, ks2⟩ := x
     have h5 : k2 = 5 := h5
     subst h5
     have hk2 := (kids_kind hx).1
     obtain ⟨y, rfl⟩ := one_kid (ks := ks2) (by have e : kidsN 5 t2 = 1 := rfl; omega)
     unfold Out
     rw [encL_one, node1]
     exact .inl (onFn (os := (Orc.t (Orc.t Orc.z))) XB_ok rfl (hOn5A_ok a m t a2 m2 t2 y))
   · rw [if_neg h5]
     unfold Out
     rw [encL_one]
     exact .inr ⟨rfl, onFn (os := (Orc.t (Orc.f Orc.z))) XB_ok rfl (hOn5B_ok a m t x h5)⟩
 rw [if_neg h]; have n5 := h; clear h
 by_cases h : k = 6 ∨ k = 7
 · rw [if_pos h]
   have c := as_row k h k a m t x hx
   generalize asS k (.mk k a m t [x]) = q at c ⊢
   unfold Out
   rw [encL_one]
   rcases h with rfl | rfl
   · exact .inl (onFn (X := XB.add fAs (Sp.con [sp2 [i0 6, ndS 6 a m t 1] [encP x] (encP q)])) (os := (Orc.f (Orc.t (Orc.t Orc.z)))) (XB_ok.add (row1 c)) rfl (hOn6_ok a m t x q))
   · exact .inl (onFn (X := XB.add fAs (Sp.con [sp2 [i0 7, ndS 7 a m t 1] [encP x] (encP q)])) (os := (Orc.f (Orc.f (Orc.t Orc.z)))) (XB_ok.add (row1 c)) rfl (hOn7_ok a m t x q))
 rw [if_neg h]; have n6 := h; clear h
 by_cases h : k = 10
 · rw [if_pos h]; subst h
   have c := called_row a m t x hx
   generalize calledS (.mk 10 a m t [x]) = q at c ⊢
   unfold Out at c ⊢
   rw [encL_one] at c ⊢
   rcases c with c | ⟨rfl, c⟩
   · exact .inl (onFn (X := XB.add fCalled (Sp.con [sp2 [ndS 10 a m t 1] [encP x] (encP q)])) (os := (Orc.f (Orc.f (Orc.f (Orc.t Orc.z))))) (XB_ok.add (row1 c)) rfl (hOn10V_ok a m t x q))
   · exact .inr ⟨rfl, onFn (X := XB.add fCalled (Sp.con [sp2 [ndS 10 a m t 1] [encP x] (ndS 10 a m t 1)])) (os := (Orc.f (Orc.f (Orc.f (Orc.t Orc.z))))) (XB_ok.add (row1 c)) rfl (hOn10N_ok a m t x)⟩
 have h1 := hk.1
 unfold kidsN at h1
 exfalso
 by_cases g : k = 2 ∨ k = 3 ∨ k = 4 ∨ k = 8 ∨ k = 9
 · rw [if_pos g] at h1; simp at h1
 · rw [if_neg g, if_neg (show ¬ (k = 5 ∨ k = 6 ∨ k = 7) by omega)] at h1
   by_cases g1 : k = 1
   · rw [if_pos g1] at h1; simp at h1
   · rw [if_neg g1, if_neg h] at h1; simp at h1
attribute [local irreducible] runF in
set_option maxHeartbeats 1000000 in
set_option maxRecDepth 100000 in
theorem once2 (k a m : Int) (t : ByteArray) (x y : Nd) (hr : rightS (.mk k a m t [x, y]) = true) (lx : (namesS x).length ≤ 1000000) (ly : (namesS y).length ≤ 1000000) : Out fOnce k a m t [x, y] (onceS (.mk k a m t [x, y])) := by
 have hk := kids_kind hr
 have hx := hk.2.2 x (by simp)
 have hy := hk.2.2 y (by simp)
 have hkk : k = 2 ∨ k = 3 ∨ k = 4 ∨ k = 8 ∨ k = 9 := by
  have h1 := hk.1
  unfold kidsN at h1
  by_cases g : k = 2 ∨ k = 3 ∨ k = 4 ∨ k = 8 ∨ k = 9
  · exact g
  · exfalso
    rw [if_neg g] at h1
    by_cases g5 : k = 5 ∨ k = 6 ∨ k = 7
    · rw [if_pos g5] at h1; simp at h1
    · rw [if_neg g5] at h1
      by_cases g1 : k = 1
      · rw [if_pos g1] at h1; simp at h1
      · rw [if_neg g1] at h1
        by_cases g10 : k = 10
        · rw [if_pos g10] at h1
          split at h1 <;> simp at h1 <;> omega
        · rw [if_neg g10] at h1; simp at h1
 show Out fOnce k a m t [x, y] (onceK k (.mk k a m t [x, y]))
 have cs := same_ok x y hx hy
 unfold FSame at cs
 by_cases h : k = 2
 · subst h
   have e : onceK 2 (.mk 2 a m t [x, y]) = if sameS x y then x else sidedS (.mk 2 a m t [x, y]) := rfl
   rw [e]
   have c := sided_row2 a m t x y hx hy lx ly
   generalize sidedS (.mk 2 a m t [x, y]) = q at c ⊢
   generalize sameS x y = b at cs ⊢
   unfold Out at c ⊢
   rw [encL_two] at c ⊢
   cases b
   · rcases c with c | ⟨rfl, c⟩
     · exact .inl (onFn (X := (XB.add fSame (Sp.con [sp1 [encP x, encP y] (b0 false)])).add fSided (Sp.con [sp2 [ndS 2 a m t 2] [encP x, encP y] (encP q)])) (os := (Orc.f (Orc.f (Orc.f (Orc.f (Orc.f (Orc.t (Orc.f Orc.z)))))))) ((XB_ok.add (val1 cs)).add (row1 c)) rfl (hOn2FV_ok a m t x y q))
     · exact .inr ⟨rfl, onFn (X := (XB.add fSame (Sp.con [sp1 [encP x, encP y] (b0 false)])).add fSided (Sp.con [sp2 [ndS 2 a m t 2] [encP x, encP y] (ndS 2 a m t 2)])) (os := (Orc.f (Orc.f (Orc.f (Orc.f (Orc.f (Orc.t (Orc.f Orc.z)))))))) ((XB_ok.add (val1 cs)).add (row1 c)) rfl (hOn2FN_ok a m t x y)⟩
   · exact .inl (onFn (X := XB.add fSame (Sp.con [sp1 [encP x, encP y] (b0 true)])) (os := (Orc.f (Orc.f (Orc.f (Orc.f (Orc.f (Orc.t (Orc.t Orc.z)))))))) (XB_ok.add (val1 cs)) rfl (hOn2T_ok a m t x y))
 have n2 := h; clear h
 by_cases h : k = 4
 · subst h
   have e : onceK 4 (.mk 4 a m t [x, y]) = if sameS x y then x else sidedS (.mk 4 a m t [x, y]) := rfl
   rw [e]
   have c := sided_row4 a m t x y hx hy lx ly
   generalize sidedS (.mk 4 a m t [x, y]) = q at c ⊢
   generalize sameS x y = b at cs ⊢
   unfold Out at c ⊢
   rw [encL_two] at c ⊢
   cases b
   · rcases c with c | ⟨rfl, c⟩
     · exact .inl (onFn (X := (XB.add fSame (Sp.con [sp1 [encP x, encP y] (b0 false)])).add fSided (Sp.con [sp2 [ndS 4 a m t 2] [encP x, encP y] (encP q)])) (os := (Orc.f (Orc.f (Orc.f (Orc.f (Orc.t (Orc.t (Orc.f Orc.z)))))))) ((XB_ok.add (val1 cs)).add (row1 c)) rfl (hOn4FV_ok a m t x y q))
     · exact .inr ⟨rfl, onFn (X := (XB.add fSame (Sp.con [sp1 [encP x, encP y] (b0 false)])).add fSided (Sp.con [sp2 [ndS 4 a m t 2] [encP x, encP y] (ndS 4 a m t 2)])) (os := (Orc.f (Orc.f (Orc.f (Orc.f (Orc.t (Orc.t (Orc.f Orc.z)))))))) ((XB_ok.add (val1 cs)).add (row1 c)) rfl (hOn4FN_ok a m t x y)⟩
   · exact .inl (onFn (X := XB.add fSame (Sp.con [sp1 [encP x, encP y] (b0 true)])) (os := (Orc.f (Orc.f (Orc.f (Orc.f (Orc.t (Orc.t (Orc.t Orc.z)))))))) (XB_ok.add (val1 cs)) rfl (hOn4T_ok a m t x y))
 have n4 := h; clear h
 by_cases h : k = 3
 · subst h
   have e : onceK 3 (.mk 3 a m t [x, y]) = sidedS (.mk 3 a m t [x, y]) := rfl
   rw [e]
   have c := sided_row3 a m t x y hx hy lx ly
   generalize sidedS (.mk 3 a m t [x, y]) = q at c ⊢
   unfold Out at c ⊢
   rw [encL_two] at c ⊢
   rcases c with c | ⟨rfl, c⟩
   · exact .inl (onFn (X := XB.add fSided (Sp.con [sp2 [ndS 3 a m t 2] [encP x, encP y] (encP q)])) (os := (Orc.f (Orc.f (Orc.f (Orc.f (Orc.f (Orc.f (Orc.t Orc.z)))))))) (XB_ok.add (row1 c)) rfl (hOn3V_ok a m t x y q))
   · exact .inr ⟨rfl, onFn (X := XB.add fSided (Sp.con [sp2 [ndS 3 a m t 2] [encP x, encP y] (ndS 3 a m t 2)])) (os := (Orc.f (Orc.f (Orc.f (Orc.f (Orc.f (Orc.f (Orc.t Orc.z)))))))) (XB_ok.add (row1 c)) rfl (hOn3N_ok a m t x y)⟩
 have e : onceK k (.mk k a m t [x, y]) = .mk k a m t [x, y] := by
  unfold onceK
  rw [if_neg (by omega), if_neg (by omega), if_neg (by omega), if_neg (by omega), if_neg h]
 rw [e]
 unfold Out
 rw [encL_two]
 exact .inr ⟨rfl, onFn (os := (Orc.f (Orc.f (Orc.f (Orc.f (Orc.f (Orc.f (Orc.f Orc.z)))))))) XB_ok rfl (hOnO2_ok k a m t x y (by omega) (by omega) (by omega) (by omega) (by omega) (by omega) (by omega))⟩
end
end Go.Proofs.YtpofhijgccocpaaGreatDoor
end
section
namespace Go.Proofs.YtpofhijgccocpaaGreatDoor
open Go.AS Go.TP
noncomputable section
theorem sound0R : X0R.Sound := by
 obtain ⟨a, b, c⟩ := sound0
 exact ⟨a, b, c⟩
theorem XR_ok : XR.Sound := .base sound0R
attribute [local irreducible] runF in
set_option maxRecDepth 100000 in
theorem rwFn {X : WX} (hX : X.Sound) (hp : X.px = X0R) {os : Orc} {k a m : Int} {t : ByteArray} {ks : List AV} {r : AV} (g : gRw X os k a m t ks r) : F fRewritten [ndV k a m t ks] r := by
 have hP : X.px.P = Tryz.prog := by rw [hp]; rfl
 have hg : X.px.gl = gl0 := by rw [hp]; rfl
 have := fn_ok (X := X.ask [fRewritten]) (d := 12) (hX.ask _) (f := fRewritten) (fn := fn fRewritten) (code := code fRewritten) (by show X.px.P.funcs[fRewritten]? = _; rw [hP]; exact fnOk fRewritten (by kernel_rfl)) (show (fn fRewritten).body = some (code fRewritten) by kernel_rfl) (by kernel_rfl) g
 show FOk Tryz.prog gl0 fRewritten _ _ _
 rw [← hg, ← hP]; exact this
theorem rewL_keeps : ∀ l : List Nd, (∀ x ∈ l, rightS x = true) → ∀ i (h1 : i < l.length) (h2 : i < (rewL l).length), Keeps l[i] (rewL l)[i]
 | [], _, i, h1, _ => by cases h1
 | x :: l, h, 0, _, _ => rew_keeps x (h x (List.mem_cons_self ..))
 | x :: l, h, i + 1, h1, h2 => by
  simp only [rewL, List.getElem_cons_succ]
  exact rewL_keeps l (fun y hy => h y (List.mem_cons_of_mem _ hy)) i (by simpa using h1) (by simpa [rewL] using h2)
theorem kids_rew {k a m : Int} {t : ByteArray} {ks : List Nd} (hr : rightS (.mk k a m t ks) = true) : rightS (.mk k a m t (rewL ks)) = true :=
 (Keeps.kids hr (rewL_length ks) (rewL_keeps ks (kids_kind hr).2.2)).right
abbrev FRew (n : Nd) : Prop := F fRewritten [encP n] (encP (rewS n))
attribute [local irreducible] runF in
set_option maxHeartbeats 1000000 in
set_option maxRecDepth 100000 in
theorem once0 (k a m : Int) (t : ByteArray) (hr : rightS (.mk k a m t []) = true) : onceS (.mk k a m t []) = .mk k a m t [] ∧ F fOnce [ndV k a m t []] (encP (.mk k a m t [])) := by
 have h1 : kidsN k t = 0 := (kids_kind hr).1
 unfold kidsN at h1
 have g : ¬ (k = 2 ∨ k = 3 ∨ k = 4 ∨ k = 8 ∨ k = 9) := fun g => by rw [if_pos g] at h1; simp at h1
 rw [if_neg g] at h1
 have g5 : ¬ (k = 5 ∨ k = 6 ∨ k = 7) := fun g => by rw [if_pos g] at h1; simp at h1
 rw [if_neg g5] at h1
 by_cases h : k = 10
 · subst h
   rw [if_neg (by decide), if_pos rfl] at h1
   have hf : formS t = 1 := by split at h1 <;> omega
   have ne : ∀ w : ByteArray, formS w ≠ 1 → t ≠ w := fun w hw e => hw (e ▸ hf)
   have c1 : t ≠ wAnc := ne _ (by decide +kernel)
   have c2 : t ≠ wDesc := ne _ (by decide +kernel)
   have c3 : t ≠ wHeads := ne _ (by decide +kernel)
   have c4 : t ≠ wRoots := ne _ (by decide +kernel)
   have c5 : t ≠ wFirst := ne _ (by decide +kernel)
   have c6 : t ≠ wLast := ne _ (by decide +kernel)
   have c7 : t ≠ wLimit := ne _ (by decide +kernel)
   have e : onceS (.mk 10 a m t []) = .mk 10 a m t [] := by
     show calledT t (.mk 10 a m t []) = _
     unfold calledT
     rw [if_neg c1, if_neg c2, if_neg (fun h => h.elim c3 c4), if_neg (fun h => h.elim c5 (fun h => h.elim c6 c7))]
   have c : F fCalled [ndV 10 a m t []] (encP (.mk 10 a m t [])) := caF0 (os := (Orc.f (Orc.f (Orc.f (Orc.f (Orc.f (Orc.f (Orc.f Orc.z)))))))) XB_ok rfl (gCaO_ok a m t [] c1 c2 c3 c4 c5 c6 c7)
   exact ⟨e, onF0 (X := XB.add fCalled (Sp.con [sp1 [ndV 10 a m t []] (encP (.mk 10 a m t []))])) (os := (Orc.f (Orc.f (Orc.f (Orc.t Orc.z))))) (XB_ok.add (val1 c)) rfl (gOn10_ok a m t [] (.mk 10 a m t []))⟩
 · have e : onceS (.mk k a m t []) = .mk k a m t [] := by
     show onceK k (.mk k a m t []) = _
     unfold onceK
     rw [if_neg (by omega), if_neg (by omega), if_neg h, if_neg (by omega), if_neg (by omega)]
   exact ⟨e, onF0 (os := (Orc.f (Orc.f (Orc.f (Orc.f (Orc.f (Orc.f (Orc.f Orc.z)))))))) XB_ok rfl (gOnO_ok k a m t [] (by omega) (by omega) (by omega) h (by omega) (by omega) (by omega))⟩
theorem gRw0_ok (k a m : Int) (t : ByteArray) (q : Nd) : gRw0 (Orc.f Orc.z) k a m t q := by
 rw [gRw0_vc]; exact ⟨rfl, (), ⟨trivial, (Wkl.cons wkZero .nil).wks, rfl⟩, .refl _, .rfl⟩
attribute [local irreducible] runF in
set_option maxHeartbeats 1000000 in
set_option maxRecDepth 100000 in
theorem rewStep (k a m : Int) (t : ByteArray) (ks : List Nd) (hr : rightS (.mk k a m t ks) = true) (hl : (namesS (.mk k a m t ks)).length ≤ 1000000) (ih : ∀ x ∈ ks, rightS x = true → (namesS x).length ≤ 1000000 → FRew x) : FRew (.mk k a m t ks) := by
 have h2 := right_len hr
 have r1 := (kids_kind hr).2.2
 have k1 := (kids_kind hr).1
 have hn := kids_rew hr
 unfold FRew
 show F fRewritten [ndV k a m t (encL ks)] (encP (rewS (.mk k a m t ks)))
 have e : rewS (.mk k a m t ks) = onceS (.mk k a m t (rewL ks)) := by rw [rewS]
 rw [e]
 match ks, h2, ih, r1, hl, hn, k1 with
 | [], _, _, _, _, hn, _ =>
  have c := once0 k a m t hn
  have e2 : rewL [] = [] := by rw [rewL]
  rw [e2, c.1]
  exact rwFn (X := XRw k a m t [] (encP (.mk k a m t []))) (os := (Orc.f Orc.z)) (XR_ok.add (val1 c.2)) rfl (gRw0_ok k a m t (.mk k a m t []))
 | [x], _, ih, r1, hl, hn, k1 =>
  have hk : k ≠ 1 := fun h => by subst h; exact absurd k1 (show ¬ ((0 : Int) = ((1 : Nat) : Int)) by decide)
  rw [names_one hk] at hl
  have hx := r1 x (by simp)
  have c1 := ih x (by simp) hx hl
  have e2 : rewL [x] = [rewS x] := by rw [rewL, rewL]
  rw [e2] at hn ⊢
  rw [encL_one]
  unfold FRew at c1
  generalize rewS x = x2 at hn c1 ⊢
  have c := once1 k a m t x2 hn
  generalize onceS (.mk k a m t [x2]) = q at c ⊢
  unfold Out at c
  rw [encL_one] at c
  rcases c with c | ⟨rfl, c⟩
  · exact rwFn (X := (XRn k a m t [encP x2] 1 (encP q)).add fRewritten (Sp.con [sp1 [encP x] (encP x2)])) (os := (Orc.t (Orc.f Orc.z))) ((XR_ok.add (row1 c)).add (val1 c1)) rfl (hRw1V_ok k a m t x x2 q)
  · rw [node1]
    exact rwFn (X := (XRn k a m t [encP x2] 1 (ndS k a m t 1)).add fRewritten (Sp.con [sp1 [encP x] (encP x2)])) (os := (Orc.t (Orc.f Orc.z))) ((XR_ok.add (row1 c)).add (val1 c1)) rfl (hRw1N_ok k a m t x x2)
 | [x, y], _, ih, r1, hl, hn, k1 =>
  have hk : k ≠ 1 := fun h => by subst h; exact absurd k1 (show ¬ ((0 : Int) = ((2 : Nat) : Int)) by decide)
  rw [names_two hk, List.length_append] at hl
  have hx := r1 x (by simp)
  have hy := r1 y (by simp)
  have c1 := ih x (by simp) hx (by omega)
  have c2 := ih y (by simp) hy (by omega)
  have l1 := (rew_keeps x hx).len
  have l2 := (rew_keeps y hy).len
  have e2 : rewL [x, y] = [rewS x, rewS y] := by rw [rewL, rewL, rewL]
  rw [e2] at hn ⊢
  rw [encL_two]
  unfold FRew at c1 c2
  generalize rewS x = x2 at hn c1 l1 ⊢
  generalize rewS y = y2 at hn c2 l2 ⊢
  have c := once2 k a m t x2 y2 hn (by omega) (by omega)
  generalize onceS (.mk k a m t [x2, y2]) = q at c ⊢
  unfold Out at c
  rw [encL_two] at c
  have cc : ConOk Tryz.prog gl0 fRewritten (Sp.con [sp1 [encP x] (encP x2), sp1 [encP y] (encP y2)]) := conOk2 (s := sp1 [encP x] (encP x2)) (t := sp1 [encP y] (encP y2)) (fun _ _ => c1) (fun _ _ => c2)
  rcases c with c | ⟨rfl, c⟩
  · exact rwFn (X := (XRn k a m t [encP x2, encP y2] 2 (encP q)).add fRewritten (Sp.con [sp1 [encP x] (encP x2), sp1 [encP y] (encP y2)])) (os := (Orc.t (Orc.alt 0 (Orc.t (Orc.alt 1 (Orc.f Orc.z)))))) ((XR_ok.add (row1 c)).add cc) rfl (hRw2V_ok k a m t x y x2 y2 q)
  · rw [node2]
    exact rwFn (X := (XRn k a m t [encP x2, encP y2] 2 (ndS k a m t 2)).add fRewritten (Sp.con [sp1 [encP x] (encP x2), sp1 [encP y] (encP y2)])) (os := (Orc.t (Orc.alt 0 (Orc.t (Orc.alt 1 (Orc.f Orc.z)))))) ((XR_ok.add (row1 c)).add cc) rfl (hRw2N_ok k a m t x y x2 y2)
 | x :: y :: z :: r, h2, _, _, _, _, _ => simp only [List.length_cons] at h2; omega
theorem rew_ok (n : Nd) : rightS n = true → (namesS n).length ≤ 1000000 → FRew n := by
 refine Nd.rec (motive_1 := fun n => rightS n = true → (namesS n).length ≤ 1000000 → FRew n) (motive_2 := fun l => ∀ x ∈ l, rightS x = true → (namesS x).length ≤ 1000000 → FRew x) ?_ ?_ ?_ n
 · intro k a m t ks ih hr hL; exact rewStep k a m t ks hr hL ih
 · intro x hx; cases hx
 · intro x l i1 i2 y hy
   rcases List.mem_cons.1 hy with rfl | hy
   · exact i1
   · exact i2 y hy
attribute [local irreducible] runF in
set_option maxHeartbeats 1000000 in
set_option maxRecDepth 100000 in
theorem rewrite_ok (n : Nd) (hf : fineS n) (hl : (namesS n).length ≤ 1000000) : F fRewrite [encP n] (encP (rewriteS n)) := by
 have c := right_ok n hf
 unfold FRight at c
 unfold rewriteS
 cases hb : rightS n with
 | false =>
  rw [hb] at c
  exact F_ok (X := XB.add fRight (Sp.con [sp1 [encP n] (b0 false)])) (os := (Orc.t Orc.z)) (XB_ok.add (val1 c)) rfl (by kernel_rfl) (by kernel_rfl) (by kernel_rfl) (gRtF_ok n)
 | true =>
  rw [hb] at c
  have d := rew_ok n hb hl
  exact F_ok (X := (XB.add fRight (Sp.con [sp1 [encP n] (b0 true)])).add fRewritten (Sp.con [sp1 [encP n] (encP (rewS n))])) (os := (Orc.f Orc.z)) ((XB_ok.add (val1 c)).add (val1 d)) rfl (by kernel_rfl) (by kernel_rfl) (by kernel_rfl) (gRtT_ok n (rewS n))
end
end Go.Proofs.YtpofhijgccocpaaGreatDoor
end
section
namespace Go.TP
open Go.AS
def offL : Lv → Nat
 | .expr => 5
 | .term => 4
 | .part => 3
 | .ranged => 2
 | .atom => 1
/-- No error, then a right tree. -/
def Rt (r : R) : Prop := r.e = none → rightS r.n = true
theorem rt_err {n : Nd} {x : Int × Int} {ts : List Tk} : Rt ⟨n, some x, ts⟩ := fun h => by cases h
theorem right_two {k : Int} (hk : k = 2 ∨ k = 3 ∨ k = 4 ∨ k = 8 ∨ k = 9) {a : Int} {x y : Nd} (hx : rightS x = true) (hy : rightS y = true) : rightS (.mk k a 0 ByteArray.empty [x, y]) = true := by
 refine right_inv.2 ⟨?_, fun z hz => ?_⟩
 · rcases hk with rfl | rfl | rfl | rfl | rfl <;> rfl
 · rcases List.mem_cons.1 hz with rfl | hz
   · exact hx
   · rw [List.mem_singleton.1 hz]; exact hy
theorem kmE_ne {k : Int} (h : kmE k ≠ 0) : kmE k = 2 ∨ kmE k = 3 ∨ kmE k = 4 ∨ kmE k = 8 ∨ kmE k = 9 := by
 unfold kmE at h ⊢
 split
 · exact .inl rfl
 · split
   · exact .inr (.inl rfl)
   · rename_i h1 h2; rw [if_neg h1, if_neg h2] at h; exact absurd rfl h
theorem kmT_ne {k : Int} (h : kmT k ≠ 0) : kmT k = 2 ∨ kmT k = 3 ∨ kmT k = 4 ∨ kmT k = 8 ∨ kmT k = 9 := by
 unfold kmT at h ⊢
 split
 · exact .inr (.inr (.inl rfl))
 · rename_i h1; rw [if_neg h1] at h; exact absurd rfl h
theorem chain_rt {part : List Tk → R} {N : Nat} (hp : ∀ ts, okT ts → Inv ts (part ts)) (hq : ∀ ts, okT ts → ts.length ≤ N → Rt (part ts)) (km : Int → Int) (hk : ∀ k, km k ≠ 0 → km k = 2 ∨ km k = 3 ∨ km k = 4 ∨ km k = 8 ∨ km k = 9) : ∀ (n : Nat) (r : R), okT r.ts → r.ts.length ≤ N → Rt r → Rt (chainS part km n r)
 | 0, r, _, _, h => by rw [chainS]; exact h
 | n + 1, r, h, hl, hn => by
  rw [chainS]
  split
  · rename_i hc
    have h1 := takeT_ok h
    have hl2 : (takeT r.ts).length ≤ N := Nat.le_trans h1.2 hl
    have h2 := hp _ h1.1
    refine chain_rt hp hq km hk n ⟨.mk (km (headT r.ts).kind) (headT r.ts).at_ 0 ByteArray.empty [r.n, (part (takeT r.ts)).n], (part (takeT r.ts)).e, (part (takeT r.ts)).ts⟩ h2.1 (Nat.le_trans h2.2 hl2) ?_
    intro he
    exact right_two (hk _ hc.2) (hn hc.1) (hq _ h1.1 hl2 he)
  · exact hn
theorem within_rt {d : Int} {t : Tk} {n0 : Nd} {us : List Tk} {f : Int → List Tk → R} (hf : Rt (f (d + 1) us)) : Rt (withinS d t n0 us f) := by
 unfold withinS
 split
 · exact rt_err
 · exact hf
theorem numB_le : ∀ (l : List UInt8) (a : Int), l.all isDigB = true → 0 ≤ a → 0 ≤ l.foldl (fun a c => 10 * a + (c.toNat - 48 : Int)) a ∧ l.foldl (fun a c => 10 * a + (c.toNat - 48 : Int)) a < 10 ^ l.length * (a + 1)
 | [], a, _, h => ⟨h, by simp only [List.foldl_nil, List.length_nil]; omega⟩
 | c :: l, a, hd, h => by
  rw [List.all_cons, Bool.and_eq_true] at hd
  have hc : 48 ≤ c.toNat ∧ c.toNat ≤ 57 := by
   have := hd.1
   unfold isDigB at this
   rw [Bool.and_eq_true] at this
   exact ⟨UInt8.le_iff_toNat_le.1 (of_decide_eq_true this.1), UInt8.le_iff_toNat_le.1 (of_decide_eq_true this.2)⟩
  obtain ⟨h1, h2⟩ := numB_le l (10 * a + (c.toNat - 48 : Int)) hd.2 (by omega)
  refine ⟨h1, ?_⟩
  rw [List.foldl_cons, List.length_cons, Int.pow_succ]
  refine Int.lt_of_lt_of_le h2 ?_
  rw [Int.mul_assoc]
  exact Int.mul_le_mul_of_nonneg_left (by omega) (Int.pow_nonneg (by decide))
theorem number_le {t : Tk} {k : Int} (h : numberS t = some k) : 0 ≤ k ∧ k ≤ 999999 := by
 unfold numberS at h
 split at h
 · rename_i hc
   cases h
   obtain ⟨h1, h2⟩ := numB_le t.text.data.toList 0 hc.2.1 (Int.le_refl _)
   refine ⟨h1, ?_⟩
   have hl : t.text.data.toList.length ≤ 6 := by rw [Array.length_toList]; exact hc.2.2.2
   have hp : (10 : Int) ^ t.text.data.toList.length ≤ 10 ^ 6 := by
     generalize t.text.data.toList.length = n at hl
     match n, hl with
     | 0, _ => decide
     | 1, _ => decide
     | 2, _ => decide
     | 3, _ => decide
     | 4, _ => decide
     | 5, _ => decide
     | 6, _ => decide
     | n + 7, h => omega
   have h3 : numB t.text.data.toList < 10 ^ t.text.data.toList.length * (0 + 1) := h2
   have e6 : (10 : Int) ^ 6 = 1000000 := rfl
   rw [e6] at hp
   omega
 · cases h
theorem form_vals (t : ByteArray) : formS t = 0 ∨ formS t = 1 ∨ formS t = 2 ∨ formS t = 3 := by
 unfold formS
 split
 · simp
 · split
   · simp
   · split <;> simp
theorem right_call0 {a : Int} {t : ByteArray} (h : formS t = 1) : rightS (.mk 10 a 0 t []) = true := by
 refine right_inv.2 ⟨?_, fun z hz => by cases hz⟩
 have e1 : kidsN 10 t = if formS t - 1 < 1 then formS t - 1 else 1 := rfl
 have e2 : namedS 10 0 t = (decide ((0 : Int) = 0) || (decide (formS t = 3) && (decide ((0 : Int) < 0) && decide ((0 : Int) ≤ 999999)))) := rfl
 unfold shapeS
 rw [e1, e2, h]; rfl
theorem right_call1 {a k : Int} {t : ByteArray} {x : Nd} (h : (formS t = 2 ∧ k = 0) ∨ (formS t = 3 ∧ 0 ≤ k ∧ k ≤ 999999)) (hx : rightS x = true) : rightS (.mk 10 a k t [x]) = true := by
 refine right_inv.2 ⟨?_, fun z hz => by rw [List.mem_singleton.1 hz]; exact hx⟩
 have e1 : kidsN 10 t = 1 := form_kids (by rcases h with h | h <;> simp [h.1])
 have e2 : namedS 10 k t = (decide (k = 0) || (decide (formS t = 3) && (decide (0 < k) && decide (k ≤ 999999)))) := rfl
 have e3 : namedS 10 k t = true := by
  rw [e2]
  by_cases h0 : k = 0
  · rw [decide_eq_true h0]; rfl
  · rcases h with ⟨_, h⟩ | ⟨h1, h2, h3⟩
    · exact absurd h h0
    · rw [decide_eq_true h1, decide_eq_true (by omega : 0 < k), decide_eq_true h3, Bool.or_eq_true]; exact .inr rfl
 unfold shapeS
 rw [e1, e3]; rfl
theorem right_name {a : Int} {t : ByteArray} (h : isPrefixS t = true) : rightS (.mk 1 a 0 t []) = true := by
 refine right_inv.2 ⟨?_, fun z hz => by cases hz⟩
 have e2 : namedS 1 0 t = (isPrefixS t && decide ((0 : Int) = 0)) := rfl
 unfold shapeS
 rw [e2, h]; rfl
theorem call_rt {expr : Int → List Tk → R} {d : Int} {w : Tk} {ts : List Tk} (he : ∀ d, Rt (expr d (takeT ts))) : Rt (callS expr d w ts) := by
 unfold callS
 simp only
 split
 · exact rt_err
 · rename_i h0
   refine within_rt ?_
   split
   · rename_i h1; exact fun _ => right_call0 h1
   · rename_i h1
     have hq := he (d + 1)
     split
     · rename_i hn; exact fun h => absurd h hn
     · rename_i hn
       have hr := hq (Classical.not_not.1 hn)
       split
       · rename_i h2; exact fun _ => right_call1 (.inl ⟨h2, rfl⟩) hr
       · rename_i h2
         have h3 : formS w.text = 3 := by have := form_vals w.text; omega
         split
         · rename_i hx; exact fun h => absurd h hx
         · split
           · exact fun h => by cases h
           · rename_i k hk; exact fun _ => right_call1 (.inr ⟨h3, number_le hk⟩) hr
theorem PF_rt : ∀ (f : Nat) (lv : Lv) (d : Int) (ts : List Tk), okT ts → 5 * ts.length + offL lv ≤ f → Rt (PF f lv d ts)
 | 0, lv, _, ts, _, h => by cases lv <;> simp only [offL] at h <;> omega
 | f + 1, .expr, d, ts, h, hf => by
  rw [PF]
  simp only [offL] at hf
  exact chain_rt (N := ts.length) (fun us hu => PF_inv f .term d us hu) (fun us hu hl => PF_rt f .term d us hu (by simp only [offL]; omega)) kmE (fun _ => kmE_ne) f _ (PF_inv f .term d ts h).1 (PF_inv f .term d ts h).2 (PF_rt f .term d ts h (by simp only [offL]; omega))
 | f + 1, .term, d, ts, h, hf => by
  rw [PF]
  simp only [offL] at hf
  exact chain_rt (N := ts.length) (fun us hu => PF_inv f .part d us hu) (fun us hu hl => PF_rt f .part d us hu (by simp only [offL]; omega)) kmT (fun _ => kmT_ne) f _ (PF_inv f .part d ts h).1 (PF_inv f .part d ts h).2 (PF_rt f .part d ts h (by simp only [offL]; omega))
 | f + 1, .part, d, ts, h, hf => by
  rw [PF]
  simp only [offL] at hf
  simp only
  split
  · exact PF_rt f .ranged d ts h (by simp only [offL]; omega)
  · rename_i hk
    have hl := take_len h (by omega)
    refine within_rt fun he => right_one (.inl rfl) (PF_rt f .part (d + 1) _ (takeT_ok h).1 (by simp only [offL]; omega) he)
 | f + 1, .ranged, d, ts, h, hf => by
  rw [PF]
  simp only [offL] at hf
  simp only
  split
  · rename_i hk
    have hl := take_len h (by omega)
    exact within_rt fun he => right_one (.inr (.inl rfl)) (PF_rt f .atom (d + 1) _ (takeT_ok h).1 (by simp only [offL]; omega) he)
  · have h2 := PF_rt f .atom d ts h (by simp only [offL]; omega)
    have i2 := PF_inv f .atom d ts h
    have second : ∀ (d : Int) (us : List Tk) (k a : Int) (n : Nd) (m : Bool), (k = 8 ∨ k = 9) → okT us → us.length ≤ ts.length → rightS n = true → Rt (secondS (PF f .atom d) k a n m us) := fun d us k a n m hk hu hl hn => by
      unfold secondS
      split
      · exact fun _ => right_one (.inr (.inr rfl)) hn
      · exact fun he => right_two (by omega) hn (PF_rt f .atom d us hu (by simp only [offL]; omega) he)
    have h3 := takeT_ok i2.1
    have l3 := Nat.le_trans h3.2 i2.2
    split
    · rename_i hn; exact fun h => absurd h hn
    · rename_i hn
      have hr := h2 (Classical.not_not.1 hn)
      split
      · exact within_rt (second _ _ _ _ _ _ (.inl rfl) h3.1 l3 hr)
      · split
        · exact second _ _ _ _ _ _ (.inr rfl) h3.1 l3 hr
        · exact fun _ => hr
 | f + 1, .atom, d, ts, h, hf => by
  rw [PF]
  simp only [offL] at hf
  simp only
  have h1 := takeT_ok h
  have h3 := takeT_ok h1.1
  split
  · rename_i hk
    have hl := take_len h (by omega)
    refine within_rt ?_
    have h2 := PF_rt f .expr (d + 1) _ h1.1 (by simp only [offL]; omega)
    split
    · exact h2
    · rename_i hn; exact fun _ => h2 (Classical.not_not.1 hn)
  · split
    · rename_i hk
      have hl := take_len h (by omega)
      split
      · exact call_rt fun d => PF_rt f .expr d _ h3.1 (by simp only [offL]; omega)
      · split
        · rename_i hp; exact fun _ => right_name hp
        · exact rt_err
    · exact fun h => by cases h
end Go.TP
end
section
namespace Go.Proofs.YtpofhijgccocpaaGreatDoor
open Go.AS Go.TP
noncomputable section
theorem lexS_len {s : ByteArray} {ts : List Tk} (h : lexS s = .ok ts) : ts.length ≤ 601 := by
 unfold lexS at h
 by_cases hs : 600 < s.size
 · rw [if_pos hs] at h; cases h
 · rw [if_neg hs] at h
   have hg := lexG_length s s.size 0 []
   generalize lexG s s.size 0 [] = R at h hg
   obtain ⟨_ | j, us⟩ := R
   · cases h
     have := hg us (Int.le_refl _) (by omega) rfl
     rw [List.length_append, List.length_singleton]
     have e0 : ((([] : List Tk).length : Nat) : Int) = 0 := rfl
     omega
   · cases h
theorem parse_tree {s : ByteArray} {n : Nd} (h : parseS s = .ok n) : rightS n = true ∧ fineS n ∧ (namesS n).length ≤ 602 := by
 unfold parseS at h
 have ho := @lexS_ok s
 have hl := @lexS_len s
 generalize lexS s = L at h ho hl
 cases L with
 | long => cases h
 | bad i => cases h
 | ok ts =>
  have hts := ho rfl
  have hlen := hl rfl
  have h1 := PF_rt (5 * ts.length + 5) .expr 0 ts hts (Nat.le_refl _)
  have h2 := PF_fine (5 * ts.length + 5) .expr 0 ts hts
  have h3 := PF_lf (5 * ts.length + 5) .expr 0 ts hts
  have h : parOf (PF (5 * ts.length + 5) .expr 0 ts) = .ok n := h
  generalize PF (5 * ts.length + 5) .expr 0 ts = r at h h1 h2 h3
  obtain ⟨m, e, us⟩ := r
  cases e with
  | some ka => obtain ⟨k, a⟩ := ka; cases h
  | none =>
   have h : (if (headT us).kind = 11 then ParR.ok m else .bad 15 (headT us).at_) = .ok n := h
   split at h
   · cases h
     refine ⟨h1 rfl, h2, ?_⟩
     have := names_leaf n
     unfold Lf at h3
     have h3 : leafS n + us.length ≤ ts.length + 1 := h3
     omega
   · cases h
end
end Go.Proofs.YtpofhijgccocpaaGreatDoor
end
section
namespace Go.Proofs.YtpofhijgccocpaaGreatDoor
open Go.AS Go.TP
noncomputable section
/-- What a call answers, by the walk as a function; what it leaves in memory is let go. -/
theorem F_drop {f n : Nat} {xs : List AV} {x : AV} {c' : Nat} {σ' : Hp} {ws' : List Nat} (h : S X0 n f xs 1 .nil [] = some (x, c', σ', ws')) : F f xs x := by
 intro E w vals hg hh hf hv
 obtain ⟨_, h2⟩ := S_ok sound0 n f xs 1 .nil [] x c' σ' ws' h
 refine (h2 E w vals hg hh hf hv).imp ?_
 rintro v w' ⟨E', k1, k2, k3, _⟩
 have hs : ∀ l e, aget (.nil : Hp) l = some e → aget σ' l = some e := fun l e he => by cases he
 exact ⟨.z, _, E', rfl, ⟨fun l _ => rfl, fun l e he => ⟨e, he⟩⟩, k1, k2.sub hs, k3.sub hs⟩
def tx : ByteArray := ⟨⟨[33, 33, 97]⟩⟩
def ta : ByteArray := ⟨⟨[97]⟩⟩
def nA : Nd := .mk 1 2 0 ta []
def n1 : Nd := .mk 5 1 0 ByteArray.empty [nA]
def n0 : Nd := .mk 5 0 0 ByteArray.empty [n1]
theorem parse_tx : parseS tx = .ok n0 := by kernel_rfl
theorem rewrite_tx : rewriteS n0 = nA := by kernel_rfl
def isId (r : CallR) (n : Int) : Bool := match r with
 | some (.lit (.int .i64 a), _, _, _) => decide (a = n)
 | _ => false
theorem isId_F {f n : Nat} {xs : List AV} {a : Int} (h : isId (S X0 n f xs 1 .nil []) a = true) : F f xs (i0 a) := by
 unfold isId at h
 split at h
 · rename_i hs; obtain rfl := of_decide_eq_true h; exact F_drop hs
 · cases h
set_option maxRecDepth 100000 in
theorem size_tx : F fSize [encP n0] (i0 3) := isId_F (n := 1000) (by kernel_rfl)
def isSd (r : CallR) (t : ByteArray) : Bool := match r with
 | some (.lit (.string a), _, _, _) => decide (a = t)
 | _ => false
theorem isSd_F {f n : Nat} {xs : List AV} {a : ByteArray} (h : isSd (S X0 n f xs 1 .nil []) a = true) : F f xs (s0 a) := by
 unfold isSd at h
 split at h
 · rename_i hs; obtain rfl := of_decide_eq_true h; exact F_drop hs
 · cases h
set_option maxRecDepth 100000 in
theorem print_tx : F fPrint [encP nA] (s0 ta) := isSd_F (n := 1000) (by kernel_rfl)
end
end Go.Proofs.YtpofhijgccocpaaGreatDoor
end
section
namespace Go.Proofs.YtpofhijgccocpaaGreatDoor
open Go.AS Go.TP
noncomputable section
def XKn : WX := (((XB.add fParse (Sp.con [sp1 [s0 tx] (.tup [encP n0, nilE])])).add fRewrite (Sp.con [sp1 [encP n0] (encP nA)])).add fPrint (Sp.con [sp1 [encP nA] (s0 ta)])).add fSize (Sp.con [sp1 [encP n0] (i0 3)])
def gKnown (os : Orc) : Prop := gF XKn [fKnown19] fKnown19 os [] (b0 true)
end
end Go.Proofs.YtpofhijgccocpaaGreatDoor
end
section
namespace Go.Proofs.YtpofhijgccocpaaGreatDoor
open Go Go.AS Go.TP
theorem gKnown_vc : gKnown (Orc.t (Orc.t (Orc.t Orc.z))) = (let z1 := [AV.agg [i0 (5 : Int), i0 (0 : Int), i0 (0 : Int), s0 (Nd.text n0), AV.lst false 5 (encL (Nd.kids n0))]]; let z2 := [AV.agg [i0 (1 : Int), i0 (2 : Int), i0 (0 : Int), s0 (Nd.text nA), AV.lst false 5 (encL (Nd.kids nA))]]; let z3 := [(33 : UInt8), (33 : UInt8), (97 : UInt8)]; let z4 := (True ∧ Wks z1 z1 ∧ hpL [] = hpL []); ∃ (_ : Unit), (True ∧ Wks [s0 { data := { toList := z3 } }] [s0 tx] ∧ hpL [] = hpL []) ∧ ∃ (_ : Unit), (True ∧ Wks [s0 { data := { toList := z3 } }] [s0 tx] ∧ hpL [] = hpL []) ∧ ∃ (_ : Unit), z4 ∧ U1 z2 [] (Yt (Yt (∃ (_ : Unit), z4 ∧ Yt (Wk (b0 true) (b0 true) ∧ SameH (hpL []) (hpL [])))))) := by kernel_rfl
end Go.Proofs.YtpofhijgccocpaaGreatDoor
end
section
namespace Go.Proofs.YtpofhijgccocpaaGreatDoor
open Go.AS Go.TP
noncomputable section
theorem gKnown_ok : gKnown (Orc.t (Orc.t (Orc.t Orc.z))) := by
 rw [gKnown_vc]
 exact ⟨(), ⟨trivial, .refl _, rfl⟩, (), ⟨trivial, .refl _, rfl⟩, (), ⟨trivial, .refl _, rfl⟩, (), ⟨trivial, .refl _, rfl⟩, rfl, rfl, (), ⟨trivial, .refl _, rfl⟩, rfl, .refl _, .rfl⟩
theorem fine_n0 : fineS n0 := ⟨Nat.zero_le _, ⟨Nat.zero_le _, ⟨by decide, trivial⟩, trivial⟩, trivial⟩
attribute [local irreducible] runF in
set_option maxRecDepth 100000 in
theorem known_ok : F fKnown19 [] (b0 true) := by
 have c1 := parse_ok tx
 rw [parse_tx] at c1
 have c2 := rewrite_ok n0 fine_n0 (by decide +kernel)
 rw [rewrite_tx] at c2
 exact F_ok (X := XKn) ((((XB_ok.add (val1 c1)).add (val1 c2)).add (val1 print_tx)).add (val1 size_tx)) rfl (by kernel_rfl) (by kernel_rfl) (by kernel_rfl) gKnown_ok
end
end Go.Proofs.YtpofhijgccocpaaGreatDoor
end
section
namespace Go.Proofs.YtpofhijgccocpaaGreatDoor
open Go.AS Go.TP
noncomputable section
abbrev fLaw : Nat := fRewriteNames
abbrev lst5 (A : List Nd) : AV := .lst false 5 (encL A)
def inArgs (A B : List Nd) (i : Int) (b : Bool) (k : Int) : List AV := [lst5 A, lst5 B, i0 i, b0 b, i0 k]
def inOut (A B : List Nd) (i : Int) (b : Bool) : Ex × Back := (.exit 2, ⟨.tup [lst5 A, lst5 B, i0 i, b0 b], .nil, []⟩)
abbrev lpIn (Q : Bool → Int → Prop) (A B : List Nd) (i : Int) (r : Ex × Back) : Lp :=
 ⟨[6, 7, 8, 9, 10], [], fun _ => [6, 7, 8, 9], Spl.con [⟨Bool × Int, fun q => Q q.1 q.2, fun q => inArgs A B i q.1 q.2, fun _ => .nil, fun _ => r⟩]⟩
def XLw : WX := (XB.ask [fLaw]).askAt fLaw [49, 54, 61, 66, 90, 95]
def rIn (os : Orc) (Q : Bool → Int → Prop) (A B : List Nd) (i : Int) (b : Bool) (k : Int) (r : Ex × Back) : Prop :=
 runL XLw 10 fLaw (fn fLaw).ntmps (loopAt (code fLaw) 2) (lpIn Q A B i r) (lpIn Q A B i r) os 0 [] (inArgs A B i b k) .nil r
def rInE (os : Orc) (A B : List Nd) (i : Int) (b : Bool) (k : Int) : Prop := rIn os (fun _ _ => False) A B i b k (inOut A B i b)
def rInT (os : Orc) (Q : Bool → Int → Prop) (A B : List Nd) (i : Int) (k : Int) (b' : Bool) : Prop := rIn os Q A B i true k (inOut A B i b')
def rInF (os : Orc) (Q : Bool → Int → Prop) (A B : List Nd) (i : Int) (k : Int) (b' : Bool) : Prop := rIn os Q A B i false k (inOut A B i b')
end
end Go.Proofs.YtpofhijgccocpaaGreatDoor
end
section
namespace Go.Proofs.YtpofhijgccocpaaGreatDoor
open Go Go.AS Go.TP
theorem rInE_vc (A B : List Nd) (i : Int) (b : Bool) (k : Int) : rInE (Orc.f Orc.z) A B i b k = (let z1 := (AV.tup [AV.lst false 5 (encL A), AV.lst false 5 (encL B), i0 i, b0 b]); decide (k < (↑(List.length (encL A)) : Int)) = false ∧ Ex.exit 2 = Ex.exit 2 ∧ Wk z1 z1 ∧ SameH (hpL []) (hpL [])) := by kernel_rfl
def orInT : Orc := Orc.t (Orc.t (Orc.t (Orc.t (Orc.t (Orc.t (Orc.t (Orc.t (Orc.t (Orc.t (Orc.t (Orc.t (Orc.t (Orc.t Orc.z)))))))))))))
theorem rInT_vc (Q : Bool → Int → Prop) (A B : List Nd) (i k : Int) (b' : Bool) : rInT orInT Q A B i k b' = (let z1 := (AV.tup [AV.lst false 5 (encL A), AV.lst false 5 (encL B), i0 i, b0 b']); decide (k < (↑(List.length (encL A)) : Int)) = true ∧ Yt4 (Yt4 (Yt4 (Yt (inR IntKind.i64 (k + (1 : Int)) = true ∧ ∃ (i1 : Bool × Int), (Q (Prod.fst i1) (Prod.snd i1) ∧ Wks [AV.lst false 5 (encL A), AV.lst false 5 (encL B), i0 i, b0 true, i0 (k + (1 : Int))] [AV.lst false 5 (encL A), AV.lst false 5 (encL B), i0 i, b0 (Prod.fst i1), i0 (Prod.snd i1)] ∧ hpL [] = hpL []) ∧ Ex.exit 2 = Ex.exit 2 ∧ Wk z1 z1 ∧ SameH (hpL []) (hpL [])))))) := by kernel_rfl
def orInF : Orc := Orc.t (Orc.f (Orc.f (Orc.f (Orc.f (Orc.f (Orc.f (Orc.f (Orc.f (Orc.f (Orc.f (Orc.f (Orc.f (Orc.s (Orc.t (Orc.t (Orc.t (Orc.t (Orc.t (Orc.t (Orc.t (Orc.t (Orc.t (Orc.t (Orc.f Orc.z))))))))))) (Orc.f (Orc.f (Orc.f (Orc.f (Orc.f (Orc.f (Orc.f (Orc.f (Orc.f (Orc.f (Orc.f Orc.z))))))))))))))))))))))))
theorem rInF_vc (Q : Bool → Int → Prop) (A B : List Nd) (i k : Int) (b' : Bool) : rInF orInF Q A B i k b' = (let z1 := (AV.tup [AV.lst false 5 (encL A), AV.lst false 5 (encL B), i0 i, b0 b']); let z2 := (Cx.B (cxV XLw 10 fLaw)); let z3 := AV.lst false 5 (encL A); let z4 := AV.lst false 5 (encL B); let z5 := (↑(List.length (encL A)) : Int); let z6 := ((0 : Int) ≤ i ∧ i < (↑(List.length (encL B)) : Int)); let z7 := (true || false); let z8 := (k + (1 : Int)); decide (k < z5) = true ∧ Nf (Nf (Nf ((decide ((0 : Int) ≤ k ∧ k < z5) && (true && (isShp z2 shN 37 (List.getD (encL A) (Int.toNat k) (AV.lit (Value.tuple { toList := [] }))) && z7))) = true ∧ Nf4 (Nf ((decide z6 && (true && (isShp z2 shN 37 (List.getD (encL B) (Int.toNat i) (AV.lit (Value.tuple { toList := [] }))) && z7))) = true ∧ Nf4 (((ByteArray.toList (strA (nthA 3 (List.getD (encL A) (Int.toNat k) (AV.lit (Value.tuple { toList := [] }))))) == ByteArray.toList (strA (nthA 3 (List.getD (encL B) (Int.toNat i) (AV.lit (Value.tuple { toList := [] })))))) = true → Yt (Yt ((decide ((0 : Int) ≤ k ∧ k < z5) && (true && (isShp z2 shN 37 (List.getD (encL A) (Int.toNat k) (AV.lit (Value.tuple { toList := [] }))) && z7))) = true ∧ Yt4 (Yt ((decide z6 && (true && (isShp z2 shN 37 (List.getD (encL B) (Int.toNat i) (AV.lit (Value.tuple { toList := [] }))) && z7))) = true ∧ Yt (Yt (Yt (Nf (inR IntKind.i64 z8 = true ∧ ∃ (i1 : Bool × Int), (Q (Prod.fst i1) (Prod.snd i1) ∧ Wks [z3, z4, i0 i, b0 (intA (nthA 1 (List.getD (encL A) (Int.toNat k) (AV.lit (Value.tuple { toList := [] })))) == intA (nthA 1 (List.getD (encL B) (Int.toNat i) (AV.lit (Value.tuple { toList := [] }))))), i0 z8] [z3, z4, i0 i, b0 (Prod.fst i1), i0 (Prod.snd i1)] ∧ hpL [] = hpL []) ∧ Ex.exit 2 = Ex.exit 2 ∧ Wk z1 z1 ∧ SameH (hpL []) (hpL [])))))))))) ∧ ((ByteArray.toList (strA (nthA 3 (List.getD (encL A) (Int.toNat k) (AV.lit (Value.tuple { toList := [] }))))) == ByteArray.toList (strA (nthA 3 (List.getD (encL B) (Int.toNat i) (AV.lit (Value.tuple { toList := [] })))))) = false → Nf4 (Nf4 (Nf (Nf (Nf (inR IntKind.i64 z8 = true ∧ ∃ (i2 : Bool × Int), (Q (Prod.fst i2) (Prod.snd i2) ∧ Wks [z3, z4, i0 i, b0 false, i0 z8] [z3, z4, i0 i, b0 (Prod.fst i2), i0 (Prod.snd i2)] ∧ hpL [] = hpL []) ∧ Ex.exit 2 = Ex.exit 2 ∧ Wk z1 z1 ∧ SameH (hpL []) (hpL [])))))))))))))) := by kernel_rfl
end Go.Proofs.YtpofhijgccocpaaGreatDoor
end
section
namespace Go.Proofs.YtpofhijgccocpaaGreatDoor
open Go.AS Go.TP
noncomputable section
theorem XLw_ok : XLw.Sound := (XB_ok.ask _).askAt _ _
theorem encL_get : ∀ (A : List Nd) (k : Nat) (u : AV), k < A.length → (encL A).getD k u = encN (A.getD k .zero)
 | [], _, _, h => absurd h (Nat.not_lt_zero _)
 | _ :: _, 0, _, _ => rfl
 | x :: A, k + 1, u, h => encL_get A k u (Nat.lt_of_succ_lt_succ h)
theorem shpNd (n : Nd) : isShp (Cx.B (cxV XLw 10 fLaw)) shN 37 (encN n) = true := by
 obtain ⟨k, a, m, t, ks⟩ := n
 show isShp (Cx.B (cxV XLw 10 fLaw)) shN 37 (ndV k a m t (encL ks)) = true
 generalize encL ks = l
 kernel_rfl
theorem txtNd (n : Nd) : strA (nthA 3 (encN n)) = n.text := by cases n; rfl
theorem atNd (n : Nd) : intA (nthA 1 (encN n)) = n.at_ := by cases n; rfl
/-- Text and place are the same. -/
def sameName (x a : Nd) : Bool := decide (a.text = x.text) && (a.at_ == x.at_)
abbrev BIn (A B : List Nd) (i : Int) (b : Bool) (k : Int) (r : Ex × Back) : Prop := BlkOk Tryz.prog gl0 (fn fLaw).ntmps (loopAt (code fLaw) 2) [6, 7, 8, 9, 10] (fun _ => [6, 7, 8, 9]) (inArgs A B i b k) .nil fun _ q => q = r
attribute [local irreducible] runL in
set_option maxRecDepth 100000 in
theorem inRound {os : Orc} {Q : Bool → Int → Prop} {A B : List Nd} {i : Int} {b : Bool} {k : Int} {r : Ex × Back} (ih : ∀ b' k', Q b' k' → BIn A B i b' k' r) (g : rIn os Q A B i b k r) : BIn A B i b k r :=
 lp_round (X := XLw) XLw_ok (f := fLaw) (fn := fn fLaw) (code := code fLaw) (fnOk fLaw (by kernel_rfl)) (show (fn fLaw).body = some (code fLaw) by kernel_rfl) (L := lpIn Q A B i r) (L' := lpIn Q A B i r) (l := [⟨Bool × Int, fun q => Q q.1 q.2, fun q => inArgs A B i q.1 q.2, fun _ => .nil, fun _ => r⟩]) rfl (show ([6, 7, 8, 9, 10] : List Nat).Nodup by decide)
  (fun s' hs' q hq => by obtain rfl := List.mem_singleton.1 hs'; exact ih q.1 q.2 hq) g
theorem rInE_ok (A B : List Nd) (i : Int) (b : Bool) (k : Int) (h : ¬ k < A.length) : rInE (Orc.f Orc.z) A B i b k := by
 rw [rInE_vc, encL_length]; exact ⟨decide_eq_false h, rfl, .refl _, .rfl⟩
theorem rInT_ok (A B : List Nd) (i k : Int) (b' : Bool) (h0 : 0 ≤ k) (h : k < A.length) (hA : A.length ≤ 1000000) : rInT orInT (fun b k' => b = true ∧ k' = k + 1) A B i k b' := by
 rw [rInT_vc, encL_length]; exact ⟨decide_eq_true h, rfl, rfl, rfl, rfl, rfl, rfl, rfl, rfl, rfl, rfl, rfl, rfl, rfl, inR_i64 (by omega) (by omega), (true, k + 1), ⟨⟨rfl, rfl⟩, .refl _, rfl⟩, rfl, .refl _, .rfl⟩
theorem rInF_ok (A B : List Nd) (i k : Int) (b' : Bool) (h0 : 0 ≤ k) (h : k < A.length) (hA : A.length ≤ 1000000) (i0' : 0 ≤ i) (hi : i < B.length) : rInF orInF (fun b k' => b = sameName (B.getD i.toNat .zero) (A.getD k.toNat .zero) ∧ k' = k + 1) A B i k b' := by
 have hk : k.toNat < A.length := by omega
 have hi2 : i.toNat < B.length := by omega
 rw [rInF_vc]
 simp only [encL_length, encL_get A _ _ hk, encL_get B _ _ hi2, shpNd, txtNd, atNd, strEq', decide_eq_true (⟨h0, h⟩ : 0 ≤ k ∧ k < (A.length : Int)), decide_eq_true (⟨i0', hi⟩ : 0 ≤ i ∧ i < (B.length : Int))]
 refine ⟨decide_eq_true h, ?_⟩
 repeat (first | refine ⟨trivial, ?_⟩ | refine ⟨rfl, ?_⟩)
 refine ⟨fun e => ?_, fun e => ?_⟩
 · repeat (first | refine ⟨trivial, ?_⟩ | refine ⟨rfl, ?_⟩)
   refine ⟨inR_i64 (by omega) (by omega), ((A.getD k.toNat .zero).at_ == (B.getD i.toNat .zero).at_, k + 1), ⟨⟨?_, rfl⟩, .refl _, trivial⟩, trivial, .refl _, .rfl⟩
   show _ = sameName _ _
   unfold sameName; rw [e, Bool.true_and]
 · repeat (first | refine ⟨trivial, ?_⟩ | refine ⟨rfl, ?_⟩)
   refine ⟨inR_i64 (by omega) (by omega), (false, k + 1), ⟨⟨?_, rfl⟩, .refl _, trivial⟩, trivial, .refl _, .rfl⟩
   show false = sameName _ _
   unfold sameName; rw [e, Bool.false_and]
end
end Go.Proofs.YtpofhijgccocpaaGreatDoor
end
section
namespace Go.Proofs.YtpofhijgccocpaaGreatDoor
open Go.AS Go.TP
noncomputable section
theorem drop_get {A : List Nd} {k : Nat} (h : k < A.length) : A.drop k = A.getD k .zero :: A.drop (k + 1) := by
 rw [List.drop_eq_getElem_cons h, List.getD_eq_getElem?_getD, List.getElem?_eq_getElem h]; rfl
attribute [local irreducible] runL in
set_option maxRecDepth 100000 in
theorem inL (A B : List Nd) (i : Int) (hA : A.length ≤ 1000000) (hi0 : 0 ≤ i) (hi : i < B.length) : ∀ (m : Nat) (k : Int) (b : Bool), 0 ≤ k → A.length - k ≤ m → BIn A B i b k (inOut A B i (b || (A.drop k.toNat).any (sameName (B.getD i.toNat .zero)))) := by
 have fin : ∀ (k : Int) (b : Bool), 0 ≤ k → ¬ k < A.length → BIn A B i b k (inOut A B i (b || (A.drop k.toNat).any (sameName (B.getD i.toNat .zero)))) := fun k b h0 hk => by
  have hd : A.drop k.toNat = [] := List.drop_eq_nil_of_le (by omega)
  rw [hd, List.any_nil, Bool.or_false]
  exact inRound (Q := fun _ _ => False) (fun _ _ h => h.elim) (rInE_ok A B i b k hk)
 intro m
 induction m with
 | zero => intro k b h0 hm; exact fin k b h0 (by omega)
 | succ m ih =>
  intro k b h0 hm
  by_cases hk : k < A.length
  · have hk2 : k.toNat < A.length := by omega
    have e1 : (k + 1).toNat = k.toNat + 1 := by omega
    cases b with
    | true =>
      have := fun b' k' (h : b' = true ∧ k' = k + 1) => (show BIn A B i b' k' (inOut A B i true) by
        have := ih (k + 1) true (by omega) (by omega)
        rw [Bool.true_or] at this
        rw [h.1, h.2]; exact this)
      rw [Bool.true_or]
      exact inRound this (rInT_ok A B i k true h0 hk hA)
    | false =>
      rw [drop_get hk2, List.any_cons, Bool.false_or]
      refine inRound (fun b' k' h => ?_) (rInF_ok A B i k _ h0 hk hA hi0 hi)
      rw [h.1, h.2, ← e1]
      exact ih (k + 1) _ (by omega) (by omega)
  · exact fin k b h0 hk
end
end Go.Proofs.YtpofhijgccocpaaGreatDoor
end
section
namespace Go.Proofs.YtpofhijgccocpaaGreatDoor
open Go.AS Go.TP
noncomputable section
/-! The second inner loop. -/
def jnArgs (A B : List Nd) (k : Int) (b : Bool) (i : Int) : List AV := [lst5 A, lst5 B, i0 k, b0 b, i0 i]
def jnOut (A B : List Nd) (k : Int) (b : Bool) : Ex × Back := (.exit 6, ⟨.tup [lst5 A, lst5 B, i0 k, b0 b], .nil, []⟩)
abbrev lpJn (Q : Bool → Int → Prop) (A B : List Nd) (k : Int) (r : Ex × Back) : Lp :=
 ⟨[6, 7, 11, 12, 13], [], fun _ => [6, 7, 11, 12], Spl.con [⟨Bool × Int, fun q => Q q.1 q.2, fun q => jnArgs A B k q.1 q.2, fun _ => .nil, fun _ => r⟩]⟩
def rJn (os : Orc) (Q : Bool → Int → Prop) (A B : List Nd) (k : Int) (b : Bool) (i : Int) (r : Ex × Back) : Prop :=
 runL XLw 10 fLaw (fn fLaw).ntmps (loopAt (code fLaw) 6) (lpJn Q A B k r) (lpJn Q A B k r) os 0 [] (jnArgs A B k b i) .nil r
def rJnE (os : Orc) (A B : List Nd) (k : Int) (b : Bool) (i : Int) : Prop := rJn os (fun _ _ => False) A B k b i (jnOut A B k b)
def rJnT (os : Orc) (Q : Bool → Int → Prop) (A B : List Nd) (k : Int) (i : Int) (b' : Bool) : Prop := rJn os Q A B k true i (jnOut A B k b')
def rJnF (os : Orc) (Q : Bool → Int → Prop) (A B : List Nd) (k : Int) (i : Int) (b' : Bool) : Prop := rJn os Q A B k false i (jnOut A B k b')
/-! The outer loops. -/
def ouArgs (A B : List Nd) (i : Int) : List AV := [lst5 A, lst5 B, i0 i]
def ouOut (j : Nat) (A B : List Nd) : Ex × Back := (.exit j, ⟨.tup [lst5 A, lst5 B], .nil, []⟩)
abbrev lp0 (P : Prop) (A B : List Nd) (i : Int) : Lp := Lp1 [6, 7, 8] [] (fun _ => [6, 7]) P (ouArgs A B i) .nil (ouOut 0 A B)
abbrev lp4 (P : Prop) (A B : List Nd) (k : Int) : Lp := Lp1 [6, 7, 11] [] (fun _ => [6, 7]) P (ouArgs A B k) .nil (ouOut 4 A B)
abbrev lpIn1 (A B : List Nd) (i : Int) : Lp := Lp1 [6, 7, 8, 9, 10] [] (fun _ => [6, 7, 8, 9]) True (inArgs A B i false 0) .nil (inOut A B i true)
abbrev lpJn1 (A B : List Nd) (k : Int) : Lp := Lp1 [6, 7, 11, 12, 13] [] (fun _ => [6, 7, 11, 12]) True (jnArgs A B k false 0) .nil (jnOut A B k true)
def XO (A B : List Nd) (i : Int) : WX := (XB.addLp fLaw 2 (lpIn1 A B i)).ask [fLaw]
def XQ (A B : List Nd) (k : Int) : WX := (XB.addLp fLaw 6 (lpJn1 A B k)).ask [fLaw]
def rO0 (X : WX) (os : Orc) (P : Prop) (A B : List Nd) (i : Int) : Prop :=
 runL X 10 fLaw (fn fLaw).ntmps (loopAt (code fLaw) 0) (lp0 P A B (i + 1)) (lp0 P A B (i + 1)) os 0 [] (ouArgs A B i) .nil (ouOut 0 A B)
def rO4 (X : WX) (os : Orc) (P : Prop) (A B : List Nd) (k : Int) : Prop :=
 runL X 10 fLaw (fn fLaw).ntmps (loopAt (code fLaw) 4) (lp4 P A B (k + 1)) (lp4 P A B (k + 1)) os 0 [] (ouArgs A B k) .nil (ouOut 4 A B)
def rO0E (os : Orc) (P : Prop) (A B : List Nd) (i : Int) : Prop := rO0 (XB.ask [fLaw]) os P A B i
def rO0R (os : Orc) (P : Prop) (A B : List Nd) (i : Int) : Prop := rO0 (XO A B i) os P A B i
def rO4E (os : Orc) (P : Prop) (A B : List Nd) (k : Int) : Prop := rO4 (XB.ask [fLaw]) os P A B k
def rO4R (os : Orc) (P : Prop) (A B : List Nd) (k : Int) : Prop := rO4 (XQ A B k) os P A B k
/-! The law. -/
def X1w (xs : List AV) (s : ByteArray) (q : AV) : WX := ((XB.add fText (Sp.con [sp1 [.lst false 1 xs] (s0 s)])).add fParse (Sp.con [sp1 [s0 s] q])).add fKnown19 (Sp.con [sp1 [] (b0 true)])
def X2w (xs : List AV) (s : ByteArray) (n m : AV) (A B : List Nd) : WX :=
 ((((X1w xs s (.tup [n, nilE])).add fRewrite (Sp.con [sp1 [n] m])).add fNames (Sp.con [sp1 [n] (lst5 A), sp1 [m] (lst5 B)])).addLp fLaw 0 (lp0 True A B 0)).addLp fLaw 4 (lp4 True A B 0)
def gLw (X : WX) (os : Orc) (xs : List AV) : Prop := lawW (X.ask [fLaw]) 12 fLaw (fn fLaw) (code fLaw) os [.lst false 1 xs]
def gLwL (os : Orc) (xs : List AV) (s : ByteArray) : Prop := gLw (X1w xs s (.tup [encP Nd.zero, .iface tErrno (i0 5)])) os xs
def gLwB (os : Orc) (xs : List AV) (s : ByteArray) (k a : Int) : Prop := gLw (X1w xs s (.tup [encP Nd.zero, encErr k a])) os xs
def gLwO (os : Orc) (xs : List AV) (s : ByteArray) (k a m : Int) (t : ByteArray) (ks : List AV) (k2 a2 m2 : Int) (t2 : ByteArray) (ks2 : List AV) (A B : List Nd) : Prop := gLw (X2w xs s (ndV k a m t ks) (ndV k2 a2 m2 t2 ks2) A B) os xs
end
end Go.Proofs.YtpofhijgccocpaaGreatDoor
end
section
namespace Go.Proofs.YtpofhijgccocpaaGreatDoor
open Go Go.AS Go.TP
theorem rJnE_vc (A B : List Nd) (k : Int) (b : Bool) (i : Int) : rJnE (Orc.f Orc.z) A B k b i = (let z1 := (AV.tup [AV.lst false 5 (encL A), AV.lst false 5 (encL B), i0 k, b0 b]); decide (i < (↑(List.length (encL B)) : Int)) = false ∧ Ex.exit 6 = Ex.exit 6 ∧ Wk z1 z1 ∧ SameH (hpL []) (hpL [])) := by kernel_rfl
def orJnT : Orc := Orc.t (Orc.t (Orc.t (Orc.t (Orc.t (Orc.t (Orc.t (Orc.t (Orc.t (Orc.t (Orc.t (Orc.t Orc.z)))))))))))
theorem rJnT_vc (Q : Bool → Int → Prop) (A B : List Nd) (k i : Int) (b' : Bool) : rJnT orJnT Q A B k i b' = (let z1 := (AV.tup [AV.lst false 5 (encL A), AV.lst false 5 (encL B), i0 k, b0 b']); decide (i < (↑(List.length (encL B)) : Int)) = true ∧ Yt4 (Yt4 (Yt (Yt (Yt (inR IntKind.i64 (i + (1 : Int)) = true ∧ ∃ (i1 : Bool × Int), (Q (Prod.fst i1) (Prod.snd i1) ∧ Wks [AV.lst false 5 (encL A), AV.lst false 5 (encL B), i0 k, b0 true, i0 (i + (1 : Int))] [AV.lst false 5 (encL A), AV.lst false 5 (encL B), i0 k, b0 (Prod.fst i1), i0 (Prod.snd i1)] ∧ hpL [] = hpL []) ∧ Ex.exit 6 = Ex.exit 6 ∧ Wk z1 z1 ∧ SameH (hpL []) (hpL []))))))) := by kernel_rfl
def orJnF : Orc := Orc.t (Orc.f (Orc.f (Orc.f (Orc.f (Orc.f (Orc.f (Orc.f (Orc.f (Orc.f (Orc.f (Orc.f Orc.z)))))))))))
theorem rJnF_vc (Q : Bool → Int → Prop) (A B : List Nd) (k i : Int) (b' : Bool) : rJnF orJnF Q A B k i b' = (let z1 := (AV.tup [AV.lst false 5 (encL A), AV.lst false 5 (encL B), i0 k, b0 b']); decide (i < (↑(List.length (encL B)) : Int)) = true ∧ Nf (Nf (Nf ((decide ((0 : Int) ≤ k ∧ k < (↑(List.length (encL A)) : Int)) && (true && (isShp (Cx.B (cxV XLw 10 fLaw)) shN 37 (List.getD (encL A) (Int.toNat k) (AV.lit (Value.tuple { toList := [] }))) && (true || false)))) = true ∧ Nf4 (Nf ((decide ((0 : Int) ≤ i ∧ i < (↑(List.length (encL B)) : Int)) && (true && (isShp (Cx.B (cxV XLw 10 fLaw)) shN 37 (List.getD (encL B) (Int.toNat i) (AV.lit (Value.tuple { toList := [] }))) && (true || false)))) = true ∧ Nf (Nf (Nf (inR IntKind.i64 (i + (1 : Int)) = true ∧ ∃ (i1 : Bool × Int), (Q (Prod.fst i1) (Prod.snd i1) ∧ Wks [AV.lst false 5 (encL A), AV.lst false 5 (encL B), i0 k, b0 (ByteArray.toList (strA (nthA 3 (List.getD (encL A) (Int.toNat k) (AV.lit (Value.tuple { toList := [] }))))) == ByteArray.toList (strA (nthA 3 (List.getD (encL B) (Int.toNat i) (AV.lit (Value.tuple { toList := [] })))))), i0 (i + (1 : Int))] [AV.lst false 5 (encL A), AV.lst false 5 (encL B), i0 k, b0 (Prod.fst i1), i0 (Prod.snd i1)] ∧ hpL [] = hpL []) ∧ Ex.exit 6 = Ex.exit 6 ∧ Wk z1 z1 ∧ SameH (hpL []) (hpL [])))))))))) := by kernel_rfl
theorem rO0E_vc (P : Prop) (A B : List Nd) (i : Int) : rO0E (Orc.f Orc.z) P A B i = (let z1 := (AV.tup [AV.lst false 5 (encL A), AV.lst false 5 (encL B)]); decide (i < (↑(List.length (encL B)) : Int)) = false ∧ Ex.exit 0 = Ex.exit 0 ∧ Wk z1 z1 ∧ SameH (hpL []) (hpL [])) := by kernel_rfl
theorem rO0R_vc (P : Prop) (A B : List Nd) (i : Int) : rO0R (Orc.t (Orc.f Orc.z)) P A B i = (let z1 := AV.lst false 5 (encL A); let z2 := AV.lst false 5 (encL B); let z3 := [z1, z2, i0 i, b0 false, i0 (0 : Int)]; decide (i < (↑(List.length (encL B)) : Int)) = true ∧ U1 z3 [] (Nf (inR IntKind.i64 (i + (1 : Int)) = true ∧ ∃ (_ : Unit), (P ∧ Wks [z1, z2, i0 (i + (1 : Int))] [z1, z2, i0 (i + (1 : Int))] ∧ hpL [] = hpL []) ∧ Ex.exit 0 = Ex.exit 0 ∧ Wk (AV.tup [z1, z2]) (AV.tup [z1, z2]) ∧ SameH (hpL []) (hpL [])))) := by kernel_rfl
theorem rO4E_vc (P : Prop) (A B : List Nd) (k : Int) : rO4E (Orc.f Orc.z) P A B k = (let z1 := (AV.tup [AV.lst false 5 (encL A), AV.lst false 5 (encL B)]); decide (k < (↑(List.length (encL A)) : Int)) = false ∧ Ex.exit 4 = Ex.exit 4 ∧ Wk z1 z1 ∧ SameH (hpL []) (hpL [])) := by kernel_rfl
theorem rO4R_vc (P : Prop) (A B : List Nd) (k : Int) : rO4R (Orc.t (Orc.f Orc.z)) P A B k = (let z1 := AV.lst false 5 (encL A); let z2 := AV.lst false 5 (encL B); let z3 := [z1, z2, i0 k, b0 false, i0 (0 : Int)]; decide (k < (↑(List.length (encL A)) : Int)) = true ∧ U1 z3 [] (Nf (inR IntKind.i64 (k + (1 : Int)) = true ∧ ∃ (_ : Unit), (P ∧ Wks [z1, z2, i0 (k + (1 : Int))] [z1, z2, i0 (k + (1 : Int))] ∧ hpL [] = hpL []) ∧ Ex.exit 4 = Ex.exit 4 ∧ Wk (AV.tup [z1, z2]) (AV.tup [z1, z2]) ∧ SameH (hpL []) (hpL [])))) := by kernel_rfl
theorem gLwL_vc (xs : List AV) (s : ByteArray) : gLwL (Orc.f (Orc.f (Orc.t Orc.z))) xs s = (let z1 := (True ∧ Wks [] [] ∧ hpL [] = hpL []); U1 [AV.lst false 1 xs] [] (U1 [s0 s] [] (∃ (_ : Unit), z1 ∧ Nf (Nf (Yt (∃ (_ : Unit), z1 ∧ b0 true = b0 true)))))) := by kernel_rfl
theorem gLwB_vc (xs : List AV) (s : ByteArray) (k a : Int) : gLwB (Orc.f (Orc.f (Orc.t Orc.z))) xs s k a = (let z1 := (True ∧ Wks [] [] ∧ hpL [] = hpL []); U1 [AV.lst false 1 xs] [] (U1 [s0 s] [] (∃ (_ : Unit), z1 ∧ Nf (Nf (Yt (∃ (_ : Unit), z1 ∧ b0 true = b0 true)))))) := by kernel_rfl
def ogLwO : Orc := Orc.f (Orc.f (Orc.f (Orc.alts (Orc.alts Orc.z Orc.z) (Orc.alts Orc.z Orc.z))))
theorem gLwO_vc (xs : List AV) (s : ByteArray) (k a m : Int) (t : ByteArray) (ks : List AV) (k2 a2 m2 : Int) (t2 : ByteArray) (ks2 : List AV) (A B : List Nd) : gLwO ogLwO xs s k a m t ks k2 a2 m2 t2 ks2 A B = (let z1 := (True ∧ Wks [AV.lst false 5 (encL A), AV.lst false 5 (encL B), i0 (0 : Int)] [AV.lst false 5 (encL A), AV.lst false 5 (encL B), i0 (0 : Int)] ∧ hpL [] = hpL []) ∧ b0 (decide ((↑(List.length (encL B)) : Int) ≤ (↑(List.length (encL A)) : Int))) = b0 true; let z2 := [AV.agg [i0 k2, i0 a2, i0 m2, s0 t2, AV.lst false 5 ks2]]; let z3 := [AV.agg [i0 k, i0 a, i0 m, s0 t, AV.lst false 5 ks]]; let z4 := [AV.lst false 5 (encL A), AV.lst false 5 (encL B), i0 (0 : Int)]; let z5 := AV.lst false 5 (encL A); let z6 := AV.lst false 5 (encL B); let z7 := (True ∧ Wks z3 z3 ∧ hpL [] = hpL []); let z8 := (True ∧ Wks z2 z3 ∧ hpL [] = hpL []); let z9 := (True ∧ Wks z2 z2 ∧ hpL [] = hpL []); U1 [AV.lst false 1 xs] [] (U1 [s0 s] [] (U1 [] [] (Nf (Nf (Nf (∃ (_ : Unit), z7 ∧ ((∃ (_ : Unit), z7 ∧ ((∃ (_ : Unit), z8 ∧ ∃ (_ : Unit), (True ∧ Wks [z5, z5, i0 (0 : Int)] z4 ∧ hpL [] = hpL []) ∧ ∃ (_ : Unit), z1) ∨ ∃ (_ : Unit), z9 ∧ U1 z4 [] (∃ (_ : Unit), z1))) ∨ ∃ (_ : Unit), (True ∧ Wks z3 z2 ∧ hpL [] = hpL []) ∧ ((∃ (_ : Unit), z8 ∧ ∃ (_ : Unit), (True ∧ Wks [z6, z5, i0 (0 : Int)] z4 ∧ hpL [] = hpL []) ∧ ∃ (_ : Unit), z1) ∨ ∃ (_ : Unit), z9 ∧ ∃ (_ : Unit), (True ∧ Wks [z6, z6, i0 (0 : Int)] z4 ∧ hpL [] = hpL []) ∧ ∃ (_ : Unit), z1))))))))) := by kernel_rfl
end Go.Proofs.YtpofhijgccocpaaGreatDoor
end
section
namespace Go.Proofs.YtpofhijgccocpaaGreatDoor
open Go.AS Go.TP
noncomputable section
/-- The text is the same. -/
def sameText (a x : Nd) : Bool := decide (a.text = x.text)
abbrev BJn (A B : List Nd) (k : Int) (b : Bool) (i : Int) (r : Ex × Back) : Prop := BlkOk Tryz.prog gl0 (fn fLaw).ntmps (loopAt (code fLaw) 6) [6, 7, 11, 12, 13] (fun _ => [6, 7, 11, 12]) (jnArgs A B k b i) .nil fun _ q => q = r
attribute [local irreducible] runL in
set_option maxRecDepth 100000 in
theorem jnRound {os : Orc} {Q : Bool → Int → Prop} {A B : List Nd} {k : Int} {b : Bool} {i : Int} {r : Ex × Back} (ih : ∀ b' i', Q b' i' → BJn A B k b' i' r) (g : rJn os Q A B k b i r) : BJn A B k b i r :=
 lp_round (X := XLw) XLw_ok (f := fLaw) (fn := fn fLaw) (code := code fLaw) (fnOk fLaw (by kernel_rfl)) (show (fn fLaw).body = some (code fLaw) by kernel_rfl) (L := lpJn Q A B k r) (L' := lpJn Q A B k r) (l := [⟨Bool × Int, fun q => Q q.1 q.2, fun q => jnArgs A B k q.1 q.2, fun _ => .nil, fun _ => r⟩]) rfl (show ([6, 7, 11, 12, 13] : List Nat).Nodup by decide)
  (fun s' hs' q hq => by obtain rfl := List.mem_singleton.1 hs'; exact ih q.1 q.2 hq) g
theorem rJnE_ok (A B : List Nd) (k : Int) (b : Bool) (i : Int) (h : ¬ i < B.length) : rJnE (Orc.f Orc.z) A B k b i := by
 rw [rJnE_vc, encL_length]; exact ⟨decide_eq_false h, rfl, .refl _, .rfl⟩
theorem rJnT_ok (A B : List Nd) (k i : Int) (b' : Bool) (h0 : 0 ≤ i) (h : i < B.length) (hB : B.length ≤ 1000000) : rJnT orJnT (fun b i' => b = true ∧ i' = i + 1) A B k i b' := by
 rw [rJnT_vc, encL_length]
 refine ⟨decide_eq_true h, ?_⟩
 repeat (first | refine ⟨trivial, ?_⟩ | refine ⟨rfl, ?_⟩)
 exact ⟨inR_i64 (by omega) (by omega), (true, i + 1), ⟨⟨rfl, rfl⟩, .refl _, rfl⟩, rfl, .refl _, .rfl⟩
theorem rJnF_ok (A B : List Nd) (k i : Int) (b' : Bool) (h0 : 0 ≤ i) (h : i < B.length) (hB : B.length ≤ 1000000) (k0' : 0 ≤ k) (hk : k < A.length) : rJnF orJnF (fun b i' => b = sameText (A.getD k.toNat .zero) (B.getD i.toNat .zero) ∧ i' = i + 1) A B k i b' := by
 have hk2 : k.toNat < A.length := by omega
 have hi2 : i.toNat < B.length := by omega
 rw [rJnF_vc]
 simp only [encL_length, encL_get A _ _ hk2, encL_get B _ _ hi2, shpNd, txtNd, strEq', decide_eq_true (⟨k0', hk⟩ : 0 ≤ k ∧ k < (A.length : Int)), decide_eq_true (⟨h0, h⟩ : 0 ≤ i ∧ i < (B.length : Int))]
 refine ⟨decide_eq_true h, ?_⟩
 repeat (first | refine ⟨trivial, ?_⟩ | refine ⟨rfl, ?_⟩)
 exact ⟨inR_i64 (by omega) (by omega), (sameText (A.getD k.toNat .zero) (B.getD i.toNat .zero), i + 1), ⟨⟨rfl, rfl⟩, .refl _, trivial⟩, trivial, .refl _, .rfl⟩
attribute [local irreducible] runL in
set_option maxRecDepth 100000 in
theorem jnL (A B : List Nd) (k : Int) (hB : B.length ≤ 1000000) (hk0 : 0 ≤ k) (hk : k < A.length) : ∀ (m : Nat) (i : Int) (b : Bool), 0 ≤ i → B.length - i ≤ m → BJn A B k b i (jnOut A B k (b || (B.drop i.toNat).any (sameText (A.getD k.toNat .zero)))) := by
 have fin : ∀ (i : Int) (b : Bool), 0 ≤ i → ¬ i < B.length → BJn A B k b i (jnOut A B k (b || (B.drop i.toNat).any (sameText (A.getD k.toNat .zero)))) := fun i b h0 hi => by
  have hd : B.drop i.toNat = [] := List.drop_eq_nil_of_le (by omega)
  rw [hd, List.any_nil, Bool.or_false]
  exact jnRound (Q := fun _ _ => False) (fun _ _ h => h.elim) (rJnE_ok A B k b i hi)
 intro m
 induction m with
 | zero => intro i b h0 hm; exact fin i b h0 (by omega)
 | succ m ih =>
  intro i b h0 hm
  by_cases hi : i < B.length
  · have hi2 : i.toNat < B.length := by omega
    have e1 : (i + 1).toNat = i.toNat + 1 := by omega
    cases b with
    | true =>
      have := fun b' i' (h : b' = true ∧ i' = i + 1) => (show BJn A B k b' i' (jnOut A B k true) by
        have := ih (i + 1) true (by omega) (by omega)
        rw [Bool.true_or] at this
        rw [h.1, h.2]; exact this)
      rw [Bool.true_or]
      exact jnRound this (rJnT_ok A B k i true h0 hi hB)
    | false =>
      rw [drop_get hi2, List.any_cons, Bool.false_or]
      refine jnRound (fun b' i' h => ?_) (rJnF_ok A B k i _ h0 hi hB hk0 hk)
      rw [h.1, h.2, ← e1]
      exact ih (i + 1) _ (by omega) (by omega)
  · exact fin i b h0 hi
/-! The outer loops. -/
abbrev BO0 (A B : List Nd) (i : Int) : Prop := BlkOk Tryz.prog gl0 (fn fLaw).ntmps (loopAt (code fLaw) 0) [6, 7, 8] (fun _ => [6, 7]) (ouArgs A B i) .nil fun _ q => q = ouOut 0 A B
abbrev BO4 (A B : List Nd) (k : Int) : Prop := BlkOk Tryz.prog gl0 (fn fLaw).ntmps (loopAt (code fLaw) 4) [6, 7, 11] (fun _ => [6, 7]) (ouArgs A B k) .nil fun _ q => q = ouOut 4 A B
set_option maxRecDepth 100000 in
theorem addLw {X : WX} (hX : X.Sound) (hp : X.px = X0) {j : Nat} {ins outs : List Nat} {xs : List AV} {r : Ex × Back} (hn : ins.Nodup) (h : BlkOk Tryz.prog gl0 (fn fLaw).ntmps (loopAt (code fLaw) j) ins (fun _ => outs) xs .nil fun _ q => q = r) : (X.addLp fLaw j (Lp1 ins [] (fun _ => outs) True xs .nil r)).Sound := by
 have hP : X.px.P = Tryz.prog := by rw [hp]; rfl
 have hg : X.px.gl = gl0 := by rw [hp]; rfl
 refine hX.addLp (fn := fn fLaw) (code := code fLaw) (by rw [hP]; exact fnOk fLaw (by kernel_rfl)) (show (fn fLaw).body = some (code fLaw) by kernel_rfl) (by kernel_rfl)
  (Spl.ok (L := Lp1 ins [] (fun _ => outs) True xs .nil r) (l := [⟨Unit, fun _ => True, fun _ => xs, fun _ => .nil, fun _ => r⟩]) rfl hn fun s' hs' i _ => by
   obtain rfl := List.mem_singleton.1 hs'
   rw [hP, hg]; exact h)
theorem rO0E_ok (P : Prop) (A B : List Nd) (i : Int) (h : ¬ i < B.length) : rO0E (Orc.f Orc.z) P A B i := by
 rw [rO0E_vc, encL_length]; exact ⟨decide_eq_false h, rfl, .refl _, .rfl⟩
theorem rO4E_ok (P : Prop) (A B : List Nd) (k : Int) (h : ¬ k < A.length) : rO4E (Orc.f Orc.z) P A B k := by
 rw [rO4E_vc, encL_length]; exact ⟨decide_eq_false h, rfl, .refl _, .rfl⟩
theorem rO0R_ok (A B : List Nd) (i : Int) (h0 : 0 ≤ i) (h : i < B.length) (hB : B.length ≤ 1000000) : rO0R (Orc.t (Orc.f Orc.z)) True A B i := by
 rw [rO0R_vc, encL_length]; exact ⟨decide_eq_true h, (), ⟨trivial, .refl _, rfl⟩, rfl, inR_i64 (by omega) (by omega), (), ⟨trivial, .refl _, rfl⟩, rfl, .refl _, .rfl⟩
theorem rO4R_ok (A B : List Nd) (k : Int) (h0 : 0 ≤ k) (h : k < A.length) (hA : A.length ≤ 1000000) : rO4R (Orc.t (Orc.f Orc.z)) True A B k := by
 rw [rO4R_vc, encL_length]; exact ⟨decide_eq_true h, (), ⟨trivial, .refl _, rfl⟩, rfl, inR_i64 (by omega) (by omega), (), ⟨trivial, .refl _, rfl⟩, rfl, .refl _, .rfl⟩
attribute [local irreducible] runL in
set_option maxRecDepth 100000 in
theorem out0 (A B : List Nd) (hA : A.length ≤ 1000000) (hB : B.length ≤ 1000000) (hall : ∀ i, i < B.length → A.any (sameName (B.getD i .zero)) = true) : ∀ (m : Nat) (i : Int), 0 ≤ i → B.length - i ≤ m → BO0 A B i := by
 have fin : ∀ i : Int, 0 ≤ i → ¬ i < B.length → BO0 A B i := fun i h0 hi =>
  lp_round1 (X := XB.ask [fLaw]) (XB_ok.ask _) (f := fLaw) (fn := fn fLaw) (code := code fLaw) (fnOk fLaw (by kernel_rfl)) (show (fn fLaw).body = some (code fLaw) by kernel_rfl) (i := 0) (show ([6, 7, 8] : List Nat).Nodup by decide) (P := False) (xs' := ouArgs A B (i + 1)) (σ' := .nil) (r' := ouOut 0 A B) (fun h => h.elim) (rO0E_ok False A B i hi)
 intro m
 induction m with
 | zero => intro i h0 hm; exact fin i h0 (by omega)
 | succ m ih =>
  intro i h0 hm
  by_cases hi : i < B.length
  · have hin := inL A B i hA h0 hi A.length 0 false (Int.le_refl _) (by omega)
    rw [Bool.false_or, show (0 : Int).toNat = 0 from rfl, List.drop_zero, hall i.toNat (by omega)] at hin
    have hX : (XO A B i).Sound := (addLw XB_ok rfl (by decide) hin).ask _
    exact lp_round1 (X := XO A B i) hX (f := fLaw) (fn := fn fLaw) (code := code fLaw) (fnOk fLaw (by kernel_rfl)) (show (fn fLaw).body = some (code fLaw) by kernel_rfl) (i := 0) (show ([6, 7, 8] : List Nat).Nodup by decide) (P := True) (xs' := ouArgs A B (i + 1)) (σ' := .nil) (r' := ouOut 0 A B) (fun _ => ih (i + 1) (by omega) (by omega)) (rO0R_ok A B i h0 hi hB)
  · exact fin i h0 hi
attribute [local irreducible] runL in
set_option maxRecDepth 100000 in
theorem out4 (A B : List Nd) (hA : A.length ≤ 1000000) (hB : B.length ≤ 1000000) (hall : ∀ k, k < A.length → B.any (sameText (A.getD k .zero)) = true) : ∀ (m : Nat) (k : Int), 0 ≤ k → A.length - k ≤ m → BO4 A B k := by
 have fin : ∀ k : Int, 0 ≤ k → ¬ k < A.length → BO4 A B k := fun k h0 hk =>
  lp_round1 (X := XB.ask [fLaw]) (XB_ok.ask _) (f := fLaw) (fn := fn fLaw) (code := code fLaw) (fnOk fLaw (by kernel_rfl)) (show (fn fLaw).body = some (code fLaw) by kernel_rfl) (i := 4) (show ([6, 7, 11] : List Nat).Nodup by decide) (P := False) (xs' := ouArgs A B (k + 1)) (σ' := .nil) (r' := ouOut 4 A B) (fun h => h.elim) (rO4E_ok False A B k hk)
 intro m
 induction m with
 | zero => intro k h0 hm; exact fin k h0 (by omega)
 | succ m ih =>
  intro k h0 hm
  by_cases hk : k < A.length
  · have hin := jnL A B k hB h0 hk B.length 0 false (Int.le_refl _) (by omega)
    rw [Bool.false_or, show (0 : Int).toNat = 0 from rfl, List.drop_zero, hall k.toNat (by omega)] at hin
    have hX : (XQ A B k).Sound := (addLw XB_ok rfl (by decide) hin).ask _
    exact lp_round1 (X := XQ A B k) hX (f := fLaw) (fn := fn fLaw) (code := code fLaw) (fnOk fLaw (by kernel_rfl)) (show (fn fLaw).body = some (code fLaw) by kernel_rfl) (i := 4) (show ([6, 7, 11] : List Nat).Nodup by decide) (P := True) (xs' := ouArgs A B (k + 1)) (σ' := .nil) (r' := ouOut 4 A B) (fun _ => ih (k + 1) (by omega) (by omega)) (rO4R_ok A B k h0 hk hA)
  · exact fin k h0 hk
/-! The law. -/
theorem gLwL_ok (xs : List AV) (s : ByteArray) : gLwL (Orc.f (Orc.f (Orc.t Orc.z))) xs s := by
 rw [gLwL_vc]; exact ⟨(), ⟨trivial, .refl _, rfl⟩, (), ⟨trivial, .refl _, rfl⟩, (), ⟨trivial, .refl _, rfl⟩, rfl, rfl, rfl, (), ⟨trivial, .refl _, rfl⟩, rfl⟩
theorem gLwB_ok (xs : List AV) (s : ByteArray) (k a : Int) : gLwB (Orc.f (Orc.f (Orc.t Orc.z))) xs s k a := by
 rw [gLwB_vc]; exact ⟨(), ⟨trivial, .refl _, rfl⟩, (), ⟨trivial, .refl _, rfl⟩, (), ⟨trivial, .refl _, rfl⟩, rfl, rfl, rfl, (), ⟨trivial, .refl _, rfl⟩, rfl⟩
theorem gLwO_ok (xs : List AV) (s : ByteArray) (k a m : Int) (t : ByteArray) (ks : List AV) (k2 a2 m2 : Int) (t2 : ByteArray) (ks2 : List AV) (A B : List Nd) (h : B.length ≤ A.length) : gLwO ogLwO xs s k a m t ks k2 a2 m2 t2 ks2 A B := by
 rw [gLwO_vc]
 have e : AV.lit (Value.bool (decide (((List.length (encL B) : Nat) : Int) ≤ ((List.length (encL A) : Nat) : Int)))) = AV.lit (Value.bool true) := by
  rw [encL_length, encL_length, decide_eq_true (by omega)]
 exact ⟨(), ⟨trivial, .refl _, rfl⟩, (), ⟨trivial, .refl _, rfl⟩, (), ⟨trivial, .refl _, rfl⟩, rfl, rfl, rfl, (), ⟨trivial, .refl _, rfl⟩, .inl ⟨(), ⟨trivial, .refl _, rfl⟩, .inr ⟨(), ⟨trivial, .refl _, rfl⟩, (), ⟨trivial, .refl _, rfl⟩, (), ⟨trivial, .refl _, rfl⟩, e⟩⟩⟩
end
end Go.Proofs.YtpofhijgccocpaaGreatDoor
end
section
namespace Go.Proofs.YtpofhijgccocpaaGreatDoor
open Go.AS Go.TP Go.RowKit Go.Sort
noncomputable section
end
end Go.Proofs.YtpofhijgccocpaaGreatDoor
end
section
namespace Go.Proofs.YtpofhijgccocpaaGreatDoor
open Go.AS Go.TP
noncomputable section
abbrev tErr : Nat := 47
abbrev tErrStr : Nat := 223
abbrev tPowA : Nat := 197
abbrev tU64 : Nat := 190
abbrev tInt : Nat := 3
abbrev tInts : Nat := 22
noncomputable def errMs : Array (String × TypeId) := match Tryz.prog.underlying tErr with | some (.interface ms) => ms | _ => #[]
noncomputable def errF : Field := match Tryz.prog.underlying tErrStr with | some (.struct fs) => fs.getD 0 default | _ => default
theorem u_err : Tryz.prog.underlying tErr = some (.interface errMs) := by kernel_rfl
theorem u_errP : Tryz.prog.underlying tErrStrP = some (.pointer tErrStr) := by kernel_rfl
theorem u_errS : Tryz.prog.underlying tErrStr = some (.struct #[errF]) := by kernel_rfl
theorem u_errF : Tryz.prog.underlying errF.type = some .string := by kernel_rfl
theorem o_errF : errF.offset = 0 := by kernel_rfl
theorem c_errS : Tryz.prog.cellsOf tErrStr = 1 := by kernel_rfl
theorem c_errF : Tryz.prog.cellsOf errF.type = 1 := by kernel_rfl
theorem u_pow : Tryz.prog.underlying tPowA = some (.array 20 tU64) := by kernel_rfl
theorem u_u64 : Tryz.prog.underlying tU64 = some (.int .u64) := by kernel_rfl
theorem c_u64 : Tryz.prog.cellsOf tU64 = 1 := by kernel_rfl
theorem c_pow : Tryz.prog.cellsOf tPowA = 20 := by kernel_rfl
theorem u_ints : Tryz.prog.underlying tInts = some (.slice tInt) := by kernel_rfl
theorem u_int : Tryz.prog.underlying tInt = some (.int .i64) := by kernel_rfl
theorem c_int : Tryz.prog.cellsOf tInt = 1 := by kernel_rfl
theorem only_errP : ((List.range Tryz.prog.types.size).all fun u => !(decide (Tryz.prog.typeName? 3 u = some "*errors.errorString")) || Nat.beq u tErrStrP) = true := by kernel_rfl
theorem no_errS : (Tryz.prog.types.toList.all fun i => !(decide (i.str = "errors.errorString")) || match i.desc with | .bool | .int _ | .float _ | .string => false | _ => true) = true := by kernel_rfl
theorem name_errP (u : TypeId) (h : Tryz.prog.typeName? 3 u = some "*errors.errorString") : u = tErrStrP := errP_only only_errP no_errS u h
abbrev dErr (bs : List UInt8) : DataW Unit := .iface "*errors.errorString" (.ptr (.agg [.lit (.string bs)]))
theorem gl0_of {l : List (String × DataW Unit)} {W : World} (h : laidMet Tryz.prog l W) (m1 : ("strconv.ErrSyntax", dErr eSyn.data.toList) ∈ l) (m2 : ("strconv.ErrRange", dErr eRan.data.toList) ∈ l)
  (m3 : ("internal/strconv.uint64pow10", (Lib.tabData .u64 powL : DataW Unit)) ∈ l) (g : Nat) (x : AV) (hx : gl0 g = some x) : GV ⟨fun _ => none, fun b => W.heap[b]?⟩ x g := by
 have hx : bsel (Nat.beq g gSyntax) (some (.ref (errStr eSyn))) (bsel (Nat.beq g gRange) (some (.ref (errStr eRan))) (bsel (Nat.beq g gPow) (some powA) none)) = some x := hx
 cases hb : Nat.beq g gSyntax
 · rw [hb, bsel_false] at hx
   cases hb2 : Nat.beq g gRange
   · rw [hb2, bsel_false] at hx
     cases hb3 : Nat.beq g gPow
     · rw [hb3, bsel_false] at hx; cases hx
     · rw [hb3, bsel_true] at hx; cases hx
       obtain rfl := Nat.eq_of_beq_eq_true hb3
       exact tab_var h m3 (t := tPowA) (by kernel_rfl) (by kernel_rfl) u_pow u_u64 c_u64 c_pow
   · rw [hb2, bsel_true] at hx; cases hx
     obtain rfl := Nat.eq_of_beq_eq_true hb2
     exact err_var h m2 (t := tErr) (by kernel_rfl) (by kernel_rfl) u_err name_errP u_errP u_errS o_errF u_errF c_errS c_errF
 · rw [hb, bsel_true] at hx; cases hx
   obtain rfl := Nat.eq_of_beq_eq_true hb
   exact err_var h m1 (t := tErr) (by kernel_rfl) (by kernel_rfl) u_err name_errP u_errP u_errS o_errF u_errF c_errS c_errF
theorem read_xs {H : Type} {enc : TypeId × Value → H} {W : World} {spare : Nat → Bool} {held : Bool} {n : Nat} {v : Value} {d : DataW H} {p : List MemPlace} (h : DataW.trod enc Tryz.prog W 0 spare held n tInts [v] = some (d, p)) :
  ∃ xs : List Int, VR ⟨fun _ => none, fun b => W.heap[b]?⟩ (.lst false 1 (xs.map i0)) v ∧ ∀ x ∈ xs, -9223372036854775808 ≤ x ∧ x < 9223372036854775808 := by
 obtain ⟨xs, h1, h2⟩ := read_ints u_ints u_int c_int h
 refine ⟨xs, h1, fun x hx => ?_⟩
 have e1 : IntKind.min .i64 = -9223372036854775808 := rfl
 have e2 : IntKind.max .i64 = 9223372036854775807 := rfl
 have := h2 x hx
 omega
end
end Go.Proofs.YtpofhijgccocpaaGreatDoor
end
section
namespace Go.Proofs.YtpofhijgccocpaaGreatDoor
open Go.AS Go.TP
noncomputable section
theorem any_of {l : List Nd} {p : Nd → Bool} {x : Nd} (h : x ∈ l) (hp : p x = true) : l.any p = true := List.any_eq_true.2 ⟨x, h, hp⟩
theorem getD_mem {l : List Nd} {i : Nat} (h : i < l.length) : l.getD i .zero ∈ l := by
 rw [List.getD_eq_getElem?_getD, List.getElem?_eq_getElem h]; exact List.getElem_mem h
/-- What a law's walk wants. -/
def LawGoal (xs : List AV) : Prop := ∃ X os, X.Sound ∧ X.px = X0 ∧ lawW X 12 fLaw (fn fLaw) (code fLaw) os [.lst false 1 xs]
attribute [local irreducible] runF runL lawW
set_option maxRecDepth 100000 in
theorem law_goal (xs : List Int) (hx : okXs xs) : LawGoal (xs.map i0) := by
 obtain ⟨s, _, ht⟩ := text_ok xs hx
 have hp := parse_ok s
 have hX1 : ∀ q, F fParse [s0 s] q → (X1w (xs.map i0) s q).Sound := fun q hq => ((XB_ok.add (val1 ht)).add (val1 hq)).add (val1 known_ok)
 cases hq : parseS s with
 | long =>
  rw [hq] at hp
  exact ⟨_, _, (hX1 _ hp).ask [fLaw], rfl, gLwL_ok (xs.map i0) s⟩
 | bad k a =>
  rw [hq] at hp
  exact ⟨_, _, (hX1 _ hp).ask [fLaw], rfl, gLwB_ok (xs.map i0) s k a⟩
 | ok n =>
  rw [hq] at hp
  obtain ⟨hr, hf, hl⟩ := parse_tree hq
  have hk := rew_keeps n hr
  have hw : F fRewrite [encP n] (encP (rewS n)) := by
   have := rewrite_ok n hf (by omega)
   unfold rewriteS at this
   rw [if_pos hr] at this; exact this
  have hA := names_ok n hr (by omega)
  have hB := names_ok (rewS n) hk.right (Nat.le_trans hk.len (by omega))
  have h0 := out0 (namesS n) (namesS (rewS n)) (by omega) (Nat.le_trans hk.len (by omega)) (fun i hi => by
   obtain ⟨x, h1, h2, h3⟩ := hk.sub _ (getD_mem hi)
   refine any_of h1 ?_
   unfold sameName
   rw [decide_eq_true h2, Bool.true_and, h3]; exact beq_self_eq_true _) (namesS (rewS n)).length 0 (Int.le_refl _) (by omega)
  have h4 := out4 (namesS n) (namesS (rewS n)) (by omega) (Nat.le_trans hk.len (by omega)) (fun i hi => by
   obtain ⟨y, h1, h2⟩ := hk.sup _ (getD_mem hi)
   refine any_of h1 ?_
   unfold sameText
   exact decide_eq_true h2) (namesS n).length 0 (Int.le_refl _) (by omega)
  have hlen := hk.len
  generalize rewS n = m at *
  have hX2 : (X2w (xs.map i0) s (encP n) (encP m) (namesS n) (namesS m)).Sound :=
   addLw (addLw (((hX1 _ hp).add (val1 hw)).add (conOk2 (s := sp1 [encP n] (lst5 (namesS n))) (t := sp1 [encP m] (lst5 (namesS m))) (fun _ _ => hA) (fun _ _ => hB))) rfl (by decide) h0) rfl (by decide) h4
  generalize namesS n = A at *
  generalize namesS m = B at *
  obtain ⟨k, a, v, t, ks⟩ := n
  obtain ⟨k2, a2, v2, t2, ks2⟩ := m
  exact ⟨_, _, hX2.ask [fLaw], rfl, gLwO_ok (xs.map i0) s k a v t (encL ks) k2 a2 v2 t2 (encL ks2) A B hlen⟩
set_option maxRecDepth 100000 in
theorem law_run {l : List (String × DataW Unit)} {W : World} (h : laidMet Tryz.prog l W) (m1 : ("strconv.ErrSyntax", dErr eSyn.data.toList) ∈ l) (m2 : ("strconv.ErrRange", dErr eRan.data.toList) ∈ l)
  (m3 : ("internal/strconv.uint64pow10", (Lib.tabData .u64 powL : DataW Unit)) ∈ l) {xs : List Int} (hx : okXs xs) {v : Value} (hv : VR ⟨fun _ => none, fun b => W.heap[b]?⟩ (.lst false 1 (xs.map i0)) v) :
  Calls Tryz.prog fLaw #[v] W fun e W' => e = .returned (.bool true) ∧ W'.os = W.os ∧ W'.tape = W.tape ∧ W'.output = W.output ∧ W.heap.size ≤ W'.heap.size ∧ ∀ b, b < W.heap.size → W'.heap[b]? = W.heap[b]? := by
 obtain ⟨X, os, hX, hp, hg⟩ := law_goal xs hx
 have hP : X.px.P = Tryz.prog := by rw [hp]; rfl
 have hgl : X.px.gl = gl0 := by rw [hp]; rfl
 have := law_calls hX (d := 12) (f := fLaw) (fn := fn fLaw) (code := code fLaw) (by rw [hP]; exact fnOk fLaw (by kernel_rfl)) (show (fn fLaw).body = some (code fLaw) by kernel_rfl) (by kernel_rfl) hg (m := fun b => W.heap[b]?) (w := W) (fun b o h => h) (by rw [hgl]; exact gl0_of h m1 m2 m3) (vals := [v]) (.vcons hv .vnil)
 rw [hP] at this
 exact this
end
end Go.Proofs.YtpofhijgccocpaaGreatDoor
end
