/- One operation, of any kind but a call: it runs as the walk says. -/
import Derived.Test.YtnenknghinpliaaGreatDoorASm
namespace Go.AS
noncomputable section

theorem storable_cells {E : Env} {x : AV} {v : Value} (hx : VR E x v) (h : x.storable = true) : ∀ u ∈ v.cells.toList, u.oneCell' = true := storable_sound x hx h

section
variable {C : Cx} [TbOk C.B C.P] {E : Env} {τ : Hp} {w : World} {look : Nat → Option Ent} {p : Id} {r : Res}
omit [TbOk C.B C.P] in
theorem mkSlc_sound (hh : Holds E τ w) (hp : Fresh E p) {s : Sem Value} {out : Array Value} {e : TypeId} {sz n : Nat} {xs : List AV} {cs : List Value} {own : Bool} {d : Nat}
    (hr : s.run C.P w = .ok (.slice (some ⟨w.heap.size, 0, none⟩) n n) (w.alloc (.cells out e))) (h1 : RR E .cs xs cs) (h2 : out.toList = cs) (h3 : xs.length = n) (h4 : ∀ x ∈ xs, x.fsz = sz)
    (h5 : ∀ u ∈ cs, u.oneCell' = true) : Ret C.P s E τ w p (mkSlc d p own sz xs).x (mkSlc d p own sz xs).upd := by
  subst h3
  have hrow : ∀ b, noLabs xs = b → Ret C.P s E τ w p (.slc d p 0 xs.length) [(d, ⟨p, .row b sz xs⟩)] := by
    rintro b rfl
    have hsz : xs.length * sz ≤ out.size := by
      rw [← Array.length_toList, h2, h1.cs_length, AV.fszs_uniform h4]; exact Nat.le_refl _
    obtain ⟨E', g1, g2, g3, g4⟩ := new_row (E := E) (rest := []) hh hp h1 (by rw [h2]; simp) rfl h4 h5 (Nat.le_refl _) hsz d
    exact ⟨_, _, E', hr, g1, g2, g3, g4⟩
  unfold mkSlc
  split
  · rename_i hn
    split
    · exact hrow true hn
    · obtain ⟨E', g1, g2, g3, g4⟩ := new_lst (E := E) (p := p) (rest := []) hh h1 (by rw [h2]; simp) rfl h4 h5 (Nat.le_refl _) hn (ex := true) (fun _ => rfl)
      exact ⟨_, _, E', hr, g1, g2, g3, g4⟩
  · rename_i hn; exact hrow false hn

theorem op_sound {n : Nat} {fr : Fr} {a : Act} (hg : GL C E) (hf : FR E n fr a) (hh : Holds E τ w) (hl : ∀ l e, look l = some e → aget τ l = some e) (hp : Fresh E p) {o : Oper} (h : opE C fr look p o = some r) (hok : r.ok = true) :
    RetN C.P (execOp a.eval o) E τ w p r.x r.upd := by
  obtain ⟨dst, op, ty, pos, after, guard⟩ := o
  unfold opE at h
  cases op <;> simp only at h <;> try (cases h; done)
  case move x =>
    obtain ⟨h1, h2⟩ := okd_some h
    rw [h2]; exact RetN.pure hh (by simp only [execOp, Sem.run_pure]) (ev_sound hg hf h1)
  case assign x =>
    obtain ⟨h1, h2⟩ := okd_some h
    rw [h2]; exact RetN.pure hh (by simp only [execOp, Sem.run_pure]) (ev_sound hg hf h1)
  case pick c x y =>
    unfold opPick at h
    try simp only at h
    split at h
    · rename_i t hc
      have hcv := (ev_sound hg hf hc).lit_inv
      split at h
      · obtain ⟨h1, h2⟩ := okd_some h
        rw [h2]; exact RetN.pure hh (by simp only [execOp, hcv, asBool, Sem.run_bind, Sem.run_pure, Result.andThen_ok, if_true]) (ev_sound hg hf h1)
      · obtain ⟨h1, h2⟩ := okd_some h
        rw [h2]; exact RetN.pure hh (by simp only [execOp, hcv, asBool, Sem.run_bind, Sem.run_pure, Result.andThen_ok, Bool.false_eq_true, if_false]) (ev_sound hg hf h1)
    · cases h
  case alloc t =>
    unfold opAlloc at h
    try simp only at h
    split at h
    · rename_i T hT
      split at h
      · rename_i rb hrb; cases h
        obtain ⟨zv, h1, ad, w', E', g1, g2, g3, g4, g5⟩ := newBl_sound (P := C.P) hh hp hrb
        refine Ret.next ⟨_, w', E', ?_, g2, g3, g4, g5⟩
        simp only [Instr.alloc, Sem.run_bind, run_ti_zero hT w h1, Result.andThen_ok, g1, Sem.run_pure]
      · split at h
        · rename_i z hz; cases h
          obtain ⟨zv, h1, h2, h3⟩ := zero_sound hz
          obtain ⟨ad, w', E', g1, g2, g3, g4, g5⟩ := newA_sound (P := C.P) (B := C.B) (T := T) (t := t) hh hp (h3 E) h2 (C.lab p (dst.getD 0))
          refine Ret.next ⟨_, w', E', ?_, g2, g3, g4, g5⟩
          simp only [Instr.alloc, Sem.run_bind, run_ti_zero hT w h1, Result.andThen_ok, g1, Sem.run_pure]
        · cases h
    · cases h
  case box t x =>
    unfold opBox at h
    try simp only at h
    split at h
    · rename_i y hy
      split at h
      · rename_i hst
        have hv := ev_sound hg hf hy
        split at h
        · cases h
          obtain ⟨ad, w', E', g1, g2, g3, g4, g5⟩ := newT_sound (P := C.P) (B := C.B) (t := t) hh hp (RR.cs_one hv) (storable_cells hv hst) (C.lab p (dst.getD 0))
          refine Ret.next ⟨_, w', E', ?_, g2, g3, g4, g5⟩
          simp only [Instr.box, Sem.run_bind, g1, Result.andThen_ok, Sem.run_pure]
        · rename_i hon; cases h
          have hnl : noLab y = true := by cases hq : noLab y <;> simp [hq] at hon ⊢
          obtain ⟨ad, w', E', g1, g2, g3, g4, g5⟩ := newRef_sound (P := C.P) (t := t) (p := p) hh hnl (RR.cs_one hv)
          refine Ret.next ⟨_, w', E', ?_, g2, g3, g4, g5⟩
          simp only [Instr.box, Sem.run_bind, g1, Result.andThen_ok, Sem.run_pure]
      · cases h
    · cases h
  case build t ps =>
    unfold opBuild at h
    try simp only at h
    split at h
    · rename_i T xs hT hxs
      obtain ⟨h1, h2⟩ := okd_some h
      obtain ⟨h3, h4⟩ := evp_sound hg hf hxs
      rw [h2]
      have := build_sound hT (w := w) h3 h4 h1
      refine RetN.val hh ?_
      have e : (ps.map fun (i, x) => (i, a.eval x)) = (ps.toList.map fun (i, x) => (i, a.eval x)).toArray := by apply Array.ext'; simp
      rw [e]; exact this
    · cases h
  case buildSlice t n ps =>
    unfold opBuildSlice at h
    try simp only at h
    split at h
    · rename_i T xs hT hxs
      obtain ⟨h3, h4⟩ := evp_sound hg hf hxs
      split at h
      · rename_i e U ys hb; cases h
        obtain ⟨out, cs, g1, g2, g3, g4, g5, g6, g7⟩ := buildSlice_run hT hb h3 h4 w
        have e : (ps.map fun (i, x) => (i, a.eval x)) = (ps.toList.map fun (i, x) => (i, a.eval x)).toArray := by apply Array.ext'; simp
        refine Ret.next ?_
        rw [e]
        exact mkSlc_sound hh hp g1 g2 g3 g4 g5 g6
      · cases h
    · cases h
  case load t x =>
    unfold opLoad at h
    try simp only at h
    split at h
    · rename_i T y hT hy
      obtain ⟨h1, h2⟩ := okd_some h
      rw [h2]; exact RetN.val hh (loadA_sound hT hh hl (ev_sound hg hf hy) h1)
    · cases h
  case store t x y =>
    unfold opStore at h
    try simp only at h
    split at h
    · rename_i T u v hT hu hv
      split at h
      · rename_i upd hs; cases h
        obtain ⟨w', g1, g2, g3⟩ := storeA_sound hT hh hl (ev_sound hg hf hu) (ev_sound hg hf hv) hs
        exact ⟨undef, w', E, .inr ⟨by simp only [execOp, Sem.run_bind, g1, Result.andThen_ok, Sem.run_pure], rfl⟩, .lit _, g2, g3, .refl _ _⟩
      · cases h
    · cases h
  case lookup t x i c =>
    unfold opLookup at h
    try simp only at h
    split at h
    · rename_i T y k hT hy hk
      obtain ⟨h1, h2⟩ := okd_some h
      rw [h2]; exact RetN.val hh (lookup_sound hT hh hl (ev_sound hg hf hy) (ev_sound hg hf hk) h1)
    · cases h
  case mapUpdate t m k x =>
    unfold opMapUpdate at h
    try simp only at h
    split at h
    · rename_i T a b y hT ha hb hy
      split at h
      · rename_i upd hs; cases h
        obtain ⟨w', g1, g2, g3⟩ := mapUpd_sound hT hh hl (ev_sound hg hf ha) (ev_sound hg hf hb) (ev_sound hg hf hy) hs
        exact ⟨undef, w', E, .inr ⟨by simp only [execOp, Sem.run_bind, g1, Result.andThen_ok, Sem.run_pure], rfl⟩, .lit _, g2, g3, .refl _ _⟩
      · cases h
    · cases h
  case insert t m k x =>
    unfold opInsert at h
    try simp only at h
    split at h
    · rename_i T a b y hT ha hb hy
      split at h
      · rename_i upd hs; cases h
        obtain ⟨w', g1, g2, g3⟩ := mapUpd_sound hT hh hl (ev_sound hg hf ha) (ev_sound hg hf hb) (ev_sound hg hf hy) hs
        exact ⟨undef, w', E, .inr ⟨by simp only [execOp, Sem.run_bind, g1, Result.andThen_ok, Sem.run_pure], rfl⟩, .lit _, g2, g3, .refl _ _⟩
      · cases h
    · cases h
  case mapEntry t m k =>
    unfold opMapEntry at h
    try simp only at h
    split at h
    · rename_i T a' b hT ha hb
      split at h
      · rename_i q hq; cases h
        obtain ⟨u, w', g1, g2, g3, g4⟩ := mapEnt_sound hT hh hl (ev_sound hg hf ha) (ev_sound hg hf hb) hq
        exact Ret.next ⟨u, w', E, g1, g2, g3, g4, .refl _ _⟩
      · cases h
    · cases h
  case entryStore t m s x =>
    unfold opEntryStore at h
    try simp only at h
    split at h
    · rename_i a' b y ha hb hy
      split at h
      · rename_i upd hs; cases h
        obtain ⟨w', g1, g2, g3⟩ := entStore_sound (P := C.P) (t := t) hh hl (ev_sound hg hf ha) (ev_sound hg hf hb) (ev_sound hg hf hy) hs
        exact ⟨undef, w', E, .inr ⟨by simp only [execOp, Sem.run_bind, g1, Result.andThen_ok, Sem.run_pure], rfl⟩, .lit _, g2, g3, .refl _ _⟩
      · cases h
    · cases h
  case range t x =>
    unfold opRange at h
    try simp only at h
    split at h
    · rename_i T y hT hy
      exact (mapRange_sound hT hh hl hp (ev_sound hg hf hy) h).next
    · cases h
  case entry x =>
    unfold opEntry at h
    try simp only at h
    split at h
    · rename_i y hy
      obtain ⟨h1, h2⟩ := okd_some h
      rw [h2]; exact RetN.val hh (mapEntryNow_sound hh hl (ev_sound hg hf hy) h1)
    · cases h
  case makeMap t r =>
    unfold opMakeMap at h
    try simp only at h
    split at h
    · cases h
      exact (makeMap_sound hh hp _).next
    · cases h
  case makeSlice t x y =>
    unfold opMakeSlice at h
    split at h
    · rename_i T k n k' c hT hx hy
      have e1 := (ev_sound hg hf hx).lit_inv
      have e2 := (ev_sound hg hf hy).lit_inv
      have := (makeSlice_sound (k := k) (k' := k') hT hh hp h).next
      rw [← e1, ← e2] at this
      exact this
    · cases h
  case nilCheck x =>
    unfold opNilCheck at h
    try simp only at h
    split at h
    · rename_i y hy
      have hv := ev_sound hg hf hy
      split at h
      · rename_i hn
        have hr : r = ⟨y, [], true⟩ := by split at h <;> cases h <;> rfl
        subst hr
        refine RetN.pure hh (v := a.eval x) ?_ hv
        cases y <;> simp only [notNil] at hn <;> try (cases hn; done)
        case lit v =>
          have := hv.lit_inv
          split at hn <;> rename_i heq <;> first | (cases hn; done) | skip
          all_goals try (cases heq; done)
          all_goals (simp only [AV.lit.injEq] at heq; subst heq; simp only [execOp, this, Sem.run_pure])
        case ptr l i k s =>
          obtain ⟨b, base, sz, cap, _, he⟩ := hv.ptr_inv
          simp only [execOp, he, Sem.run_pure]
        case ref y =>
          obtain ⟨b, off, c, t, fz, cs, rest, he, _⟩ := hv.ref_inv
          simp only [execOp, he, Sem.run_pure]
        case fn f first cap =>
          obtain ⟨f', c', he, _⟩ := hv.fn_inv
          cases f <;> simp only at hn <;> first | (cases hn; done) | skip
          simp only [execOp, he, Sem.run_pure]
        case iface t z =>
          obtain ⟨u, he, _⟩ := hv.iface_inv
          simp only [execOp, he, Sem.run_pure]
      · cases h
    · cases h
  case binOp op t x y yt =>
    unfold opBinOp at h
    try simp only at h
    split at h
    · rename_i u v hu hv
      have hu' := ev_sound hg hf hu
      have hv' := ev_sound hg hf hv
      split at h
      · obtain ⟨h1, h2⟩ := okg_some h
        rw [h1]
        rcases h2 with ⟨z, h3, h4⟩ | h3
        · rw [h4]
          have e1 := hu'.lit_inv; have e2 := hv'.lit_inv
          exact RetN.val hh ⟨z, by rw [e1, e2]; exact arith_sound h3 hok w, .lit _⟩
        · exact RetN.val hh (cmpP_sound hu' hv' h3)
      · obtain ⟨h1, h2⟩ := okd_some h
        rw [h2]
        split at h1
        · rename_i hc; cases h1; exact RetN.val hh (cmpP_sound hu' hv' hc)
        · exact RetN.val hh (ptrCmp_sound hh hl hu' hv' h1)
    · cases h
  case unOp op t x =>
    unfold opUnOp at h
    try simp only at h
    split at h
    · rename_i v hv
      obtain ⟨z, h1, h2, h3⟩ := okl_some h
      have he := (ev_sound hg hf hv).lit_inv
      rw [h2, h3]
      exact RetN.val hh ⟨z, by rw [he]; exact pureQ_sound h1 w, .lit _⟩
    · cases h
  case convert s t x =>
    unfold opConvert at h
    try simp only at h
    split at h
    · rename_i y hy
      have hv := ev_sound hg hf hy
      split at h
      · rename_i e l hs
        obtain ⟨cap, w', c, fz, g1, g2, g3, g4, ⟨rest, g5⟩, g6, g7, g8, g9, g10, g11⟩ := s2b_run (w := w) hv hs
        have hheap : w'.heap = w.heap.push (.cells c e fz) := by
          apply Array.ext_getElem?; intro i
          rw [Array.getElem?_push]
          split
          · rename_i hi; subst hi; exact g6
          · rename_i hi
            by_cases hlt : i < w.heap.size
            · exact g8 i hlt
            · rw [Array.getElem?_eq_none (by omega), Array.getElem?_eq_none (by omega)]
        have hcs : RR E.pure .cs (l.map byteA) (l.map fun b => Value.int .u8 b.toNat) := cs_bytes l
        have h1s : ∀ y ∈ l.map byteA, y.fsz = 1 := fszs_bytes l
        have hone : ∀ u ∈ l.map (fun b => Value.int .u8 b.toNat), u.oneCell' = true := fun u hu => by
          obtain ⟨b, _, rfl⟩ := List.mem_map.1 hu; rfl
        split at h <;> cases h
        · have hcap : cap * 1 ≤ c.size := by omega
          obtain ⟨k1, k2⟩ := hh.new hp (.cells c e fz) 0 1 cap (C.lab p (dst.getD 0)) (.row true 1 (l.map byteA)) (.row (c := c) (t := e) (fz := fz) (rest := rest) (by show (w.heap.push _)[w.heap.size]? = _; simp) (hcs.mono (Env.name_le (hp p (List.suffix_refl _))).pure)
            (by rw [List.drop_zero]; exact g5) h1s (by simpa using g2) (by omega) (by rw [g4]; intro j _ hj; simp; omega) hone)
          have kv := RR.slc (E := E.name p (.at w.heap.size 0 1 cap)) (C.lab p (dst.getD 0)) (i := p) (off := 0) (len := l.length) (c := cap) (Env.name_self ..) g2 (by omega)
          refine Ret.next ⟨_, w', _, g1, by simpa using kv, ?_, ?_, Env.name_newIn⟩
          · exact k1.world hheap
          · exact ⟨k2.le, g9, g10, g11, by have := k2.size; rw [hheap]; exact this, fun b hb ho => by rw [hheap]; exact k2.kept b hb ho, k2.ownNew, k2.mNew⟩
        · obtain ⟨k1, k2⟩ := hh.newMem (.cells c e fz)
          have hm : (E.mem w.heap.size (.cells c e fz)).m w.heap.size = some (.cells c e fz) := by simp [Env.mem]
          refine Ret.next ⟨_, w', _, g1, .lst hm (hcs.mono k2.le.pure) (by rw [List.drop_zero]; exact g5) h1s (by simp) g2 (fun h => by cases h) hone, ?_, ?_, Env.mem_newIn⟩
          · exact k1.world hheap
          · exact ⟨k2.le, g9, g10, g11, by have := k2.size; rw [hheap]; exact this, fun b hb ho => by rw [hheap]; exact k2.kept b hb ho, k2.ownNew, k2.mNew⟩
      · split at h
        · obtain ⟨h1, h2⟩ := okg_some h
          rw [h1]
          rcases h2 with ⟨z, h3, h4⟩ | h3
          · rw [h4]
            have e1 := hv.lit_inv
            exact RetN.val hh ⟨z, by rw [e1]; exact intConv_sound h3 hok w, .lit _⟩
          · exact RetN.val hh (conv_sound hh hl hv h3)
        · obtain ⟨h1, h2⟩ := okd_some h
          rw [h2]; exact RetN.val hh (conv_sound hh hl hv h1)
    · cases h
  case makeInterface t x =>
    unfold opMakeInterface at h
    try simp only at h
    split at h
    · rename_i T y hT hy
      split at h
      · cases h
      · rename_i hd; cases h
        refine RetN.val hh ⟨.iface t (a.eval x), ?_, .iface t (ev_sound hg hf hy)⟩
        simp only [Instr.makeInterface, Sem.run_bind, run_ti_underlying hT, Result.andThen_ok, Sem.run_pure]
    · cases h
  case makeFunc f first cap =>
    unfold opMakeFunc at h
    try simp only at h
    split at h
    · rename_i xs ys hxs hys; cases h
      refine RetN.val hh ⟨.func f (first.map a.eval) (cap.map a.eval), by simp only [Instr.makeFunc, Sem.run_pure], ?_⟩
      have e1 : first.map a.eval = (first.toList.map a.eval).toArray := by apply Array.ext'; simp
      have e2 : cap.map a.eval = (cap.toList.map a.eval).toArray := by apply Array.ext'; simp
      rw [e1, e2]
      exact .fn f (evs_sound hg hf hxs) (evs_sound hg hf hys)
    · cases h
  case slice t x lo hi mx =>
    unfold opSlice at h
    try simp only at h
    split at h
    · rename_i T y l hh' m hT hy hlo hhi hmx
      obtain ⟨h1, h2⟩ := okd_some h
      rw [h2]; exact RetN.val hh (sliceA_sound hT hh hl (evo_sound hg hf hlo) (evo_sound hg hf hhi) (evo_sound hg hf hmx) (ev_sound hg hf hy) h1)
    · cases h
  case fieldAddr t x f =>
    unfold opFieldAddr at h
    try simp only at h
    split at h
    · rename_i T y hT hy
      obtain ⟨h1, h2⟩ := okd_some h
      rw [h2]; exact RetN.val hh (fieldAddr_sound hT (ev_sound hg hf hy) h1)
    · cases h
  case field t x f =>
    unfold opField at h
    try simp only at h
    split at h
    · rename_i T y hT hy
      obtain ⟨h1, h2⟩ := okd_some h
      rw [h2]; exact RetN.val hh (field_sound hT (ev_sound hg hf hy) h1)
    · cases h
  case indexAddr t x i =>
    unfold opIndexAddr at h
    try simp only at h
    split at h
    · rename_i T y k m hT hy hi
      obtain ⟨h1, h2⟩ := okd_some h
      have he := (ev_sound hg hf hi).lit_inv
      rw [h2]; simp only [execOp, he]; exact RetN.val hh (idxAddrA_sound hT hh hl (ev_sound hg hf hy) h1)
    · cases h
  case index t x i =>
    unfold opIndex at h
    try simp only at h
    split at h
    · rename_i T y k m hT hy hi
      obtain ⟨h1, h2⟩ := okd_some h
      have he := (ev_sound hg hf hi).lit_inv
      rw [h2]; simp only [execOp, he]; exact RetN.val hh (index_sound hT (ev_sound hg hf hy) h1)
    · cases h
  case typeAssert x xt t c =>
    unfold opTypeAssert at h
    try simp only at h
    split at h
    · rename_i T y hT hy
      obtain ⟨h1, h2⟩ := okd_some h
      rw [h2]; exact RetN.val hh (typeAssert_sound hT (ev_sound hg hf hy) h1)
    · cases h
  case extract x i =>
    unfold opExtract at h
    try simp only at h
    split at h
    · rename_i xs hx
      obtain ⟨h1, h2⟩ := okd_some h
      obtain ⟨vs, he, hr⟩ := (ev_sound hg hf hx).tup_inv
      obtain ⟨v, h3, h4⟩ := hr.vs_get i r.x h1
      rw [h2]; simp only [execOp, he]
      exact RetN.val hh ⟨v, by simp only [Instr.extract, List.getElem?_toArray, h3, Sem.run_pure], h4⟩
    · rename_i vs hx
      obtain ⟨h1, h2⟩ := okd_some h
      have he := (ev_sound hg hf hx).lit_inv
      cases hv : vs[i]? with
      | none => simp [hv] at h1
      | some v =>
        rw [hv, Option.map_some, Option.some.injEq] at h1
        rw [h2, ← h1]; simp only [execOp, he]
        exact RetN.val hh ⟨v, by simp only [Instr.extract, hv, Sem.run_pure], .lit _⟩
    · cases h
  case call c =>
    unfold opCall at h
    try simp only at h
    split at h
    · rename_i b hb
      split at h
      · rename_i xs hxs
        have := builtin_sound hh hl hp (evs_sound hg hf hxs) h hok ty (c.args.map fun | .const _ => true | _ => false)
        simp only [execOp, resolve, hb, pure_bind, invoke]
        have e : c.args.map a.eval = (c.args.toList.map a.eval).toArray := by apply Array.ext'; simp
        rw [e]; exact this
      · cases h
    · cases h
end
end
end Go.AS
