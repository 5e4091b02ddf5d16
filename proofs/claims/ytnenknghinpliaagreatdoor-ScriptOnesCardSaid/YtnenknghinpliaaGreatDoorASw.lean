/- Values and memory under other labels and names. -/
import Derived.Test.YtnenknghinpliaaGreatDoorASu
namespace Go.AS
noncomputable section

/-- A piece: where it stands, and its name there; where it is to stand, and its name there. -/
structure Mv where
  l : Nat
  i : Id
  l' : Nat
  i' : Id
def idEq : Id → Id → Bool
  | [], [] => true
  | a :: x, b :: y => match Nat.beq a b with
    | true => idEq x y
    | false => false
  | _, _ => false
theorem idEq_sound : ∀ {x y : Id}, idEq x y = true → x = y
  | [], [], _ => rfl
  | [], _ :: _, h => by cases h
  | _ :: _, [], h => by cases h
  | a :: x, b :: y, h => by
    unfold idEq at h
    split at h
    · rename_i hb
      rw [Nat.eq_of_beq_eq_true hb, idEq_sound h]
    · cases h
theorem idEq_refl : ∀ x : Id, idEq x x = true
  | [] => rfl
  | a :: x => by unfold idEq; simp [idEq_refl x]
def mvAt : List Mv → Nat → Option Mv
  | [], _ => none
  | m :: r, l => match Nat.beq m.l l with
    | true => some m
    | false => mvAt r l
theorem mvAt_mem : ∀ {M : List Mv} {l : Nat} {m : Mv}, mvAt M l = some m → m ∈ M ∧ m.l = l
  | [], _, _, h => by cases h
  | q :: r, l, m, h => by
    unfold mvAt at h
    split at h
    · rename_i hb; cases h; exact ⟨List.mem_cons_self .., Nat.eq_of_beq_eq_true hb⟩
    · obtain ⟨h1, h2⟩ := mvAt_mem h; exact ⟨List.mem_cons_of_mem _ h1, h2⟩
def mvTo : List Mv → Id → Option Mv
  | [], _ => none
  | m :: r, i => match idEq m.i' i with
    | true => some m
    | false => mvTo r i
theorem mvTo_mem : ∀ {M : List Mv} {i : Id} {m : Mv}, mvTo M i = some m → m ∈ M ∧ m.i' = i
  | [], _, _, h => by cases h
  | q :: r, l, m, h => by
    unfold mvTo at h
    split at h
    · rename_i hb; cases h; exact ⟨List.mem_cons_self .., idEq_sound hb⟩
    · obtain ⟨h1, h2⟩ := mvTo_mem h; exact ⟨List.mem_cons_of_mem _ h1, h2⟩

mutual
def AV.cv (M : List Mv) : AV → Option AV
  | .lit v => some (.lit v)
  | .ptr l i k s => match mvAt M l with
    | some m => match idEq m.i i with
      | true => some (.ptr m.l' m.i' k s)
      | false => none
    | none => none
  | .slc l i off len => match mvAt M l with
    | some m => match idEq m.i i with
      | true => some (.slc m.l' m.i' off len)
      | false => none
    | none => none
  | .sub l i k s n => match mvAt M l with
    | some m => match idEq m.i i with
      | true => some (.sub m.l' m.i' k s n)
      | false => none
    | none => none
  | .yld _ => none
  | .mp l i => match mvAt M l with
    | some m => match idEq m.i i with
      | true => some (.mp m.l' m.i')
      | false => none
    | none => none
  | .ref x => some (.ref x)
  | .lst ex sz xs => some (.lst ex sz xs)
  | .mpv ks vs => some (.mpv ks vs)
  | .fn g xs ys => match AV.cvs M xs, AV.cvs M ys with
    | some as, some bs => some (.fn g as bs)
    | _, _ => none
  | .iface t x => match x.cv M with
    | some y => some (.iface t y)
    | none => none
  | .agg xs => match AV.cvs M xs with
    | some ys => some (.agg ys)
    | none => none
  | .tup xs => match AV.cvs M xs with
    | some ys => some (.tup ys)
    | none => none
def AV.cvs (M : List Mv) : List AV → Option (List AV)
  | [] => some []
  | x :: xs => match x.cv M, AV.cvs M xs with
    | some y, some ys => some (y :: ys)
    | _, _ => none
end
theorem cvs_nil {M : List Mv} {ys : List AV} (h : AV.cvs M [] = some ys) : ys = [] := by rw [AV.cvs] at h; cases h; rfl
theorem cvs_cons {M : List Mv} {x : AV} {xs ys : List AV} (h : AV.cvs M (x :: xs) = some ys) : ∃ y ys', ys = y :: ys' ∧ x.cv M = some y ∧ AV.cvs M xs = some ys' := by
  rw [AV.cvs] at h
  split at h
  · rename_i y ys' h1 h2; cases h; exact ⟨y, ys', rfl, h1, h2⟩
  · cases h
theorem cvs_one {M : List Mv} {x : AV} {ys : List AV} (h : AV.cvs M [x] = some ys) : ∃ y, ys = [y] ∧ x.cv M = some y := by
  obtain ⟨y, ys', rfl, h1, h2⟩ := cvs_cons h
  rw [cvs_nil h2]; exact ⟨y, rfl, h1⟩
theorem cvs_length {M : List Mv} : ∀ {xs ys : List AV}, AV.cvs M xs = some ys → ys.length = xs.length
  | [], ys, h => by rw [cvs_nil h]
  | x :: xs, ys, h => by obtain ⟨y, ys', rfl, _, h2⟩ := cvs_cons h; simp [cvs_length h2]
mutual
theorem cv_fsz {M : List Mv} : ∀ (x : AV) {y : AV}, x.cv M = some y → y.fsz = x.fsz
  | .lit v, y, h => by rw [AV.cv] at h; cases h; rfl
  | .ptr .., y, h => by rw [AV.cv] at h; repeat' split at h
                        all_goals first | (cases h; done) | (cases h; simp [AV.fsz])
  | .slc .., y, h => by rw [AV.cv] at h; repeat' split at h
                        all_goals first | (cases h; done) | (cases h; simp [AV.fsz])
  | .sub .., y, h => by rw [AV.cv] at h; repeat' split at h
                        all_goals first | (cases h; done) | (cases h; simp [AV.fsz])
  | .yld _, y, h => by rw [AV.cv] at h; cases h
  | .mp .., y, h => by rw [AV.cv] at h; repeat' split at h
                       all_goals first | (cases h; done) | (cases h; simp [AV.fsz])
  | .ref _, y, h => by rw [AV.cv] at h; cases h; rfl
  | .lst .., y, h => by rw [AV.cv] at h; cases h; rfl
  | .mpv .., y, h => by rw [AV.cv] at h; cases h; rfl
  | .fn .., y, h => by rw [AV.cv] at h; split at h <;> cases h; simp [AV.fsz]
  | .iface .., y, h => by rw [AV.cv] at h; split at h <;> cases h; simp [AV.fsz]
  | .tup .., y, h => by rw [AV.cv] at h; split at h <;> cases h; simp [AV.fsz]
  | .agg xs, y, h => by
    rw [AV.cv] at h; split at h
    · rename_i ys hys; cases h; rw [AV.fsz, AV.fsz, cvs_fszs xs hys]
    · cases h
theorem cvs_fszs {M : List Mv} : ∀ (xs : List AV) {ys : List AV}, AV.cvs M xs = some ys → AV.fszs ys = AV.fszs xs
  | [], ys, h => by rw [cvs_nil h]
  | x :: xs, ys, h => by
    obtain ⟨y, ys', rfl, h1, h2⟩ := cvs_cons h
    rw [AV.fszs, AV.fszs, cv_fsz x h1, cvs_fszs xs h2]
end
theorem cvs_mem {M : List Mv} : ∀ {xs ys : List AV}, AV.cvs M xs = some ys → ∀ y ∈ ys, ∃ x ∈ xs, x.cv M = some y
  | [], ys, h, y, hy => by rw [cvs_nil h] at hy; cases hy
  | x :: xs, ys, h, y, hy => by
    obtain ⟨z, ys', rfl, h1, h2⟩ := cvs_cons h
    rcases List.mem_cons.1 hy with rfl | hy
    · exact ⟨x, List.mem_cons_self .., h1⟩
    · obtain ⟨x', h3, h4⟩ := cvs_mem h2 y hy; exact ⟨x', List.mem_cons_of_mem _ h3, h4⟩

/-- What a name stands for is what its new name stands for. -/
structure Moves (E E' : Env) (M : List Mv) : Prop where
  ρ : ∀ m ∈ M, ∀ L, E.ρ m.i = some L → E'.ρ m.i' = some L
  m : ∀ b o, E.m b = some o → E'.m b = some o
theorem Moves.name {E E' : Env} {M : List Mv} (hM : Moves E E' M) {l : Nat} {i : Id} {m : Mv} (h1 : mvAt M l = some m) (h2 : idEq m.i i = true) (L : Loc) (hL : E.ρ i = some L) : E'.ρ m.i' = some L := by
  obtain ⟨h3, _⟩ := mvAt_mem h1
  exact hM.ρ _ h3 L (by rw [idEq_sound h2]; exact hL)
theorem Moves.pure_le {E E' : Env} {M : List Mv} (hM : Moves E E' M) : E.pure.le E'.pure := ⟨fun _ _ h => (by cases h), hM.m⟩
theorem RR.cv {E E' : Env} {M : List Mv} (hM : Moves E E' M) {md : Md} {xs : List AV} {vs : List Value} (h : RR E md xs vs) : ∀ {ys : List AV}, AV.cvs M xs = some ys → RR E' md ys vs := by
  revert E'
  induction h with
  | lit v => intro E' hM ys h; obtain ⟨y, rfl, h1⟩ := cvs_one h; rw [AV.cv] at h1; cases h1; exact .lit v
  | ptr l k s h =>
    intro E' hM ys h'; obtain ⟨y, rfl, h1⟩ := cvs_one h'
    rw [AV.cv] at h1; repeat' split at h1
    all_goals first | (cases h1; done) | skip
    rename_i m hm _ hi; cases h1; exact .ptr _ k s (hM.name hm hi _ h)
  | slc l h h1 h2 =>
    intro E' hM ys h'; obtain ⟨y, rfl, h3⟩ := cvs_one h'
    rw [AV.cv] at h3; repeat' split at h3
    all_goals first | (cases h3; done) | skip
    rename_i m hm _ hi; cases h3; exact .slc _ (hM.name hm hi _ h) h1 h2
  | slcZ l off a h =>
    intro E' hM ys h'; obtain ⟨y, rfl, h3⟩ := cvs_one h'
    rw [AV.cv] at h3; repeat' split at h3
    all_goals first | (cases h3; done) | skip
    rename_i m hm _ hi; cases h3; exact .slcZ _ off a (hM.name hm hi _ h)
  | ref h hx hc _ =>
    intro E' hM ys h'; obtain ⟨y, rfl, h3⟩ := cvs_one h'
    rw [AV.cv] at h3; cases h3; exact .ref (hM.m _ _ h) (hx.mono hM.pure_le) hc
  | lstE sz a h =>
    intro E' hM ys h'; obtain ⟨y, rfl, h3⟩ := cvs_one h'
    rw [AV.cv] at h3; cases h3; exact .lstE sz a h
  | lst h hx hc hs hn h1 he ho _ =>
    intro E' hM ys h'; obtain ⟨y, rfl, h3⟩ := cvs_one h'
    rw [AV.cv] at h3; cases h3
    exact .lst (hM.m _ _ h) (hx.mono hM.pure_le) hc hs hn h1 he ho
  | sub l k s h h1 =>
    intro E' hM ys h'; obtain ⟨y, rfl, h3⟩ := cvs_one h'
    rw [AV.cv] at h3; repeat' split at h3
    all_goals first | (cases h3; done) | skip
    rename_i m hm _ hi; cases h3; exact .sub _ k s (hM.name hm hi _ h) h1
  | yld h => intro E' hM ys h'; obtain ⟨y, rfl, h3⟩ := cvs_one h'; rw [AV.cv] at h3; cases h3
  | mp l h =>
    intro E' hM ys h'; obtain ⟨y, rfl, h3⟩ := cvs_one h'
    rw [AV.cv] at h3; repeat' split at h3
    all_goals first | (cases h3; done) | skip
    rename_i m hm _ hi; cases h3; exact .mp _ (hM.name hm hi _ h)
  | mpv h hk hu hv _ =>
    intro E' hM ys h'; obtain ⟨y, rfl, h3⟩ := cvs_one h'
    rw [AV.cv] at h3; cases h3; exact .mpv (hM.m _ _ h) hk hu (hv.mono hM.pure_le)
  | fn g _ _ i1 i2 =>
    intro E' hM ys h'; obtain ⟨y, rfl, h3⟩ := cvs_one h'
    rw [AV.cv] at h3; split at h3
    · rename_i as bs h4 h5; cases h3; exact .fn g (i1 hM h4) (i2 hM h5)
    · cases h3
  | iface t _ ih =>
    intro E' hM ys h'; obtain ⟨y, rfl, h3⟩ := cvs_one h'
    rw [AV.cv] at h3; split at h3
    · rename_i z hz; cases h3; exact .iface t (ih hM (by simp [AV.cvs, hz]))
    · cases h3
  | agg _ ih =>
    intro E' hM ys h'; obtain ⟨y, rfl, h3⟩ := cvs_one h'
    rw [AV.cv] at h3; split at h3
    · rename_i zs hz; cases h3; exact .agg (ih hM hz)
    · cases h3
  | tup _ ih =>
    intro E' hM ys h'; obtain ⟨y, rfl, h3⟩ := cvs_one h'
    rw [AV.cv] at h3; split at h3
    · rename_i zs hz; cases h3; exact .tup (ih hM hz)
    · cases h3
  | vnil => intro E' hM ys h; rw [cvs_nil h]; exact .vnil
  | vcons _ _ i1 i2 =>
    intro E' hM ys h; obtain ⟨y, ys', rfl, h1, h2⟩ := cvs_cons h
    exact .vcons (i1 hM (by simp [AV.cvs, h1])) (i2 hM h2)
  | cnil => intro E' hM ys h; rw [cvs_nil h]; exact .cnil
  | ccons _ _ i1 i2 =>
    intro E' hM ys h; obtain ⟨y, ys', rfl, h1, h2⟩ := cvs_cons h
    exact .ccons (i1 hM (by simp [AV.cvs, h1])) (i2 hM h2)
theorem VR.cv {E E' : Env} {M : List Mv} (hM : Moves E E' M) {x y : AV} {v : Value} (h : VR E x v) (hy : x.cv M = some y) : VR E' y v := RR.cv hM h (by simp [AV.cvs, hy])

/-! Back again. -/
def Mv.back (m : Mv) : Mv := ⟨m.l', m.i', m.l, m.i⟩
def Backs (M : List Mv) : Prop := ∀ m ∈ M, mvAt (M.map Mv.back) m.l' = some m.back
mutual
theorem cv_back {M : List Mv} (hb : Backs M) : ∀ (x : AV) {y : AV}, x.cv M = some y → y.cv (M.map Mv.back) = some x
  | .lit v, y, h => by rw [AV.cv] at h; cases h; rw [AV.cv]
  | .ptr l i k s, y, h => by
    rw [AV.cv] at h; split at h
    · rename_i m hm; split at h
      · rename_i hi; cases h
        obtain ⟨h1, h2⟩ := mvAt_mem hm
        rw [AV.cv, hb m h1]; simp only [Mv.back, idEq_refl, h2, idEq_sound hi]
      · cases h
    · cases h
  | .slc l i a b, y, h => by
    rw [AV.cv] at h; split at h
    · rename_i m hm; split at h
      · rename_i hi; cases h
        obtain ⟨h1, h2⟩ := mvAt_mem hm
        rw [AV.cv, hb m h1]; simp only [Mv.back, idEq_refl, h2, idEq_sound hi]
      · cases h
    · cases h
  | .sub l i k c n, y, h => by
    rw [AV.cv] at h; split at h
    · rename_i m hm; split at h
      · rename_i hi; cases h
        obtain ⟨h1, h2⟩ := mvAt_mem hm
        rw [AV.cv, hb m h1]; simp only [Mv.back, idEq_refl, h2, idEq_sound hi]
      · cases h
    · cases h
  | .yld _, y, h => by rw [AV.cv] at h; cases h
  | .mp l i, y, h => by
    rw [AV.cv] at h; split at h
    · rename_i m hm; split at h
      · rename_i hi; cases h
        obtain ⟨h1, h2⟩ := mvAt_mem hm
        rw [AV.cv, hb m h1]; simp only [Mv.back, idEq_refl, h2, idEq_sound hi]
      · cases h
    · cases h
  | .ref x, y, h => by rw [AV.cv] at h; cases h; rw [AV.cv]
  | .lst ex sz xs, y, h => by rw [AV.cv] at h; cases h; rw [AV.cv]
  | .mpv ks vs, y, h => by rw [AV.cv] at h; cases h; rw [AV.cv]
  | .fn g xs ys, y, h => by
    rw [AV.cv] at h; split at h
    · rename_i a b h1 h2; cases h; rw [AV.cv, cvs_back hb xs h1, cvs_back hb ys h2]
    · cases h
  | .iface t x, y, h => by
    rw [AV.cv] at h; split at h
    · rename_i z hz; cases h; rw [AV.cv, cv_back hb x hz]
    · cases h
  | .agg xs, y, h => by
    rw [AV.cv] at h; split at h
    · rename_i z hz; cases h; rw [AV.cv, cvs_back hb xs hz]
    · cases h
  | .tup xs, y, h => by
    rw [AV.cv] at h; split at h
    · rename_i z hz; cases h; rw [AV.cv, cvs_back hb xs hz]
    · cases h
theorem cvs_back {M : List Mv} (hb : Backs M) : ∀ (xs : List AV) {ys : List AV}, AV.cvs M xs = some ys → AV.cvs (M.map Mv.back) ys = some xs
  | [], ys, h => by rw [cvs_nil h, AV.cvs]
  | x :: xs, ys, h => by
    obtain ⟨y, ys', rfl, h1, h2⟩ := cvs_cons h
    rw [AV.cvs, cv_back hb x h1, cvs_back hb xs h2]
end

def AObj.cv (M : List Mv) : AObj → Option AObj
  | .row pu sz xs => match pu with
    | true => some (.row true sz xs)
    | false => match AV.cvs M xs with
      | some ys => some (.row false sz ys)
      | none => none
  | .map pu bs c ks vs => match pu with
    | true => some (.map true bs c ks vs)
    | false => match AV.cvs M vs with
      | some ys => some (.map false bs c ks ys)
      | none => none
  | .sit s n => some (.sit s n)
  | .mit l i a b c => match mvAt M l with
    | some m => match idEq m.i i with
      | true => some (.mit m.l' m.i' a b c)
      | false => none
    | none => none
  | .bld t x => match AV.cv M x with
    | some y => some (.bld t y)
    | none => none
  | .buf t bs => some (.buf t bs)
theorem ObjR.cv {E E' : Env} {w : World} {M : List Mv} (hM : Moves E E' M) {o o' : AObj} {L : Loc} (h : ObjR E w o L) (ho : o.cv M = some o') : ObjR E' w o' L := by
  cases h with
  | row h hx hc hs hn hb hf ho' hzz =>
    rename_i pu xs b base sz cap c t fz cs rest
    cases pu with
    | true => rw [AObj.cv] at ho; cases ho; exact .row h (hx.mono hM.pure_le) hc hs hn hb hf ho'
    | false =>
      rw [AObj.cv] at ho; split at ho
      · rename_i ys hys; cases ho
        refine .row h (RR.cv hM hx hys) hc (fun x hx => ?_) (by rw [cvs_length hys]; exact hn) hb hf ho'
        obtain ⟨x', h4, h5⟩ := cvs_mem hys x hx
        rw [cv_fsz _ h5]; exact hs _ h4
      · cases ho
  | ghost pu sz => cases pu <;> (rw [AObj.cv] at ho; try rw [AV.cvs] at ho) <;> (cases ho; exact .ghost _ sz)
  | map h hk hu hv hb hd hbs =>
    rename_i pu _ _ _ _ _ _ _ _ _ _
    cases pu with
    | true => rw [AObj.cv] at ho; cases ho; exact .map h hk hu (hv.mono hM.pure_le) hb hd hbs
    | false =>
      rw [AObj.cv] at ho; split at ho
      · rename_i ys hys; cases ho; exact .map h hk hu (RR.cv hM hv hys) hb hd hbs
      · cases ho
  | sit h => rw [AObj.cv] at ho; cases ho; exact .sit h
  | mit h hm =>
    rw [AObj.cv] at ho; repeat' split at ho
    all_goals first | (cases ho; done) | skip
    rename_i m hmv _ hi; cases ho; exact .mit h (hM.name hmv hi _ hm)
  | bld h hu hv =>
    rw [AObj.cv] at ho; split at ho
    · rename_i y hy; cases ho
      refine .bld h hu ?_
      rcases hv with ⟨rfl, rfl⟩ | ⟨m, j, n, g, cap, rfl, h2, rfl⟩
      · rw [AV.cv] at hy; cases hy; exact .inl ⟨rfl, rfl⟩
      · rw [AV.cv] at hy; repeat' split at hy
        all_goals first | (cases hy; done) | skip
        rename_i q hq _ hi; cases hy
        exact .inr ⟨_, _, _, _, _, rfl, hM.name hq hi _ h2, rfl⟩
    · cases ho
  | buf h hc hn hm hb => rw [AObj.cv] at ho; cases ho; exact .buf h hc hn hm hb
theorem AObj.cv_back {M : List Mv} (hb : Backs M) : ∀ {o o' : AObj}, o.cv M = some o' → o'.cv (M.map Mv.back) = some o := by
  intro o o' h
  cases o with
  | row pu sz xs =>
    cases pu with
    | true => rw [AObj.cv] at h; cases h; rw [AObj.cv]
    | false =>
      rw [AObj.cv] at h; split at h
      · rename_i ys hys; cases h; rw [AObj.cv, cvs_back hb xs hys]
      · cases h
  | map pu bs c ks vs =>
    cases pu with
    | true => rw [AObj.cv] at h; cases h; rw [AObj.cv]
    | false =>
      rw [AObj.cv] at h; split at h
      · rename_i ys hys; cases h; rw [AObj.cv, cvs_back hb vs hys]
      · cases h
  | sit s n => rw [AObj.cv] at h; cases h; rw [AObj.cv]
  | mit l i a b c =>
    rw [AObj.cv] at h; split at h
    · rename_i m hm; split at h
      · rename_i hi; cases h
        obtain ⟨h1, h2⟩ := mvAt_mem hm
        rw [AObj.cv, hb m h1]; simp only [Mv.back, idEq_refl, h2, idEq_sound hi]
      · cases h
    · cases h
  | bld t x =>
    rw [AObj.cv] at h; split at h
    · rename_i y hy; cases h
      rw [AObj.cv, _root_.Go.AS.cv_back hb x hy]
    · cases h
  | buf t bs => rw [AObj.cv] at h; cases h; rw [AObj.cv]
end
end Go.AS
