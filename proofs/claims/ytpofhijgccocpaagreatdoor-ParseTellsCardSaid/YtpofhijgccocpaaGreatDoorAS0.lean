/- Finite maps from numbers; recursion as the kernel does it. -/
namespace Go.AS
noncomputable section
inductive Tr (α:Type) where
 | nil
 | node (x:Option α) (l r:Tr α)
 deriving Inhabited
def half (k:Nat):Nat:=Nat.div k 2
def zadB (k:Nat):Bool:=Nat.beq (Nat.mod k 2) 1
def tget {α:Type}(t:Tr α):Nat->Option α :=
 Tr.rec (motive:=fun _=>Nat->Option α) (fun _=>none) (fun x _ _ gl gr k=>Nat.rec (motive:=fun _=>Option α) x
  (fun k' _=>Bool.rec (motive:=fun _=>Option α) (gl (half k')) (gr (half k')) (zadB k')) k) t
def tone {α:Type}(o:Option α)(f:Nat):Nat->Tr α :=
 Nat.rec (motive:=fun _=>Nat->Tr α) (fun _ => .node o .nil .nil)
  (fun _ ih k=>Nat.rec (motive:=fun _=>Tr α) (.node o .nil .nil) (fun k' _=>Bool.rec (motive:=fun _=>Tr α) (.node none (ih (half k')) .nil) (.node none .nil (ih (half k'))) (zadB k')) k) f
def tput {α:Type}(o:Option α)(t:Tr α):Nat->Tr α :=
 Tr.rec (motive:=fun _=>Nat->Tr α) (fun k=>tone o k k)
  (fun x l r il ir k=>Nat.rec (motive:=fun _=>Tr α) (.node o l r) (fun k' _=>Bool.rec (motive:=fun _=>Tr α) (.node x (il (half k')) r) (.node x l (ir (half k'))) (zadB k')) k) t
def lrec {α β:Type}(z:β)(s:α->List α->β->β)(l:List α):β:=List.rec (motive:=fun _=>β) z s l
theorem zab1 {α:Type}(k:Nat):tget (.nil:Tr α) k=none:=rfl
theorem zab0 {α:Type}(x:Option α)(l r:Tr α):tget (.node x l r) 0=x:=rfl
theorem zabn {α:Type}(x:Option α)(l r:Tr α)(k:Nat)(h:zadB k=false):tget (.node x l r) (k+1)=tget l (half k):=by
 show Bool.rec (motive:=fun _=>Option α) _ _ (zadB k)=_
 rw [h];rfl
theorem zaa6 {α:Type}(x:Option α)(l r:Tr α)(k:Nat)(h:zadB k=true):tget (.node x l r) (k+1)=tget r (half k):=by
 show Bool.rec (motive:=fun _=>Option α) _ _ (zadB k)=_
 rw [h];rfl
theorem zaj {α:Type}(o:Option α)(f:Nat):tone o f 0 = .node o .nil .nil:=by cases f<;>rfl
theorem zanG {α:Type}(o:Option α)(f k:Nat)(h:zadB k=false):tone o (f+1) (k+1) = .node none (tone o f (half k)) .nil:=by
 show Bool.rec (motive:=fun _=>Tr α) _ _ (zadB k)=_
 rw [h];rfl
theorem zak4 {α:Type}(o:Option α)(f k:Nat)(h:zadB k=true):tone o (f+1) (k+1) = .node none .nil (tone o f (half k)):=by
 show Bool.rec (motive:=fun _=>Tr α) _ _ (zadB k)=_
 rw [h];rfl
theorem zarp {α:Type}(o:Option α)(k:Nat):tput o .nil k=tone o k k:=rfl
theorem zai8 {α:Type}(o:Option α)(x:Option α)(l r:Tr α):tput o (.node x l r) 0 = .node o l r:=rfl
theorem zai9 {α:Type}(o:Option α)(k:Nat)(x:Option α)(l r:Tr α)(h:zadB k=false):tput o (.node x l r) (k+1) = .node x (tput o l (half k)) r:=by
 show Bool.rec (motive:=fun _=>Tr α) _ _ (zadB k)=_
 rw [h];rfl
theorem zag9 {α:Type}(o:Option α)(k:Nat)(x:Option α)(l r:Tr α)(h:zadB k=true):tput o (.node x l r) (k+1) = .node x l (tput o r (half k)):=by
 show Bool.rec (motive:=fun _=>Tr α) _ _ (zadB k)=_
 rw [h];rfl
def obind {α β:Type}(o:Option α)(f:α->Option β):Option β:=Option.rec (motive:=fun _=>Option β) none f o
def bsel {β:Type}(b:Bool)(x y:β):β:=Bool.rec (motive:=fun _=>β) y x b
def nsel {β:Type}(x:β)(f:Nat->β)(k:Nat):β:=Nat.rec (motive:=fun _=>β) x (fun k' _=>f k') k
theorem zaoo {β:Type}(x:β)(f:Nat->β):nsel x f 0=x:=rfl
theorem zaop {β:Type}(x:β)(f:Nat->β)(k:Nat):nsel x f (k+1)=f k:=rfl
theorem zalX {α β:Type}(f:α->Option β):obind none f=none:=rfl
theorem zae0 {α β:Type}(a:α)(f:α->Option β):obind (some a) f=f a:=rfl
theorem zaam {β:Type}(x y:β):bsel true x y=x:=rfl
theorem zaai {β:Type}(x y:β):bsel false x y=y:=rfl
theorem zamb {α β:Type}(z:β)(s:α->List α->β->β):lrec z s []=z:=rfl
theorem zagz {α β:Type}(z:β)(s:α->List α->β->β)(x:α)(l:List α):lrec z s (x::l)=s x l (lrec z s l):=rfl
theorem zabq {α β:Type}{o:Option α}{f:α->Option β}{r:β}(h:obind o f=some r):∃ a,o=some a/\f a=some r:=by
 cases o with
 | none=>rw [zalX] at h;cases h
 | some a=>exact ⟨a,rfl,by rw [zae0] at h;exact h⟩
theorem zajT {β:Type}{b:Bool}{x:Option β}{r:β}(h:bsel b x none=some r):b=true/\x=some r:=by
 cases b with
 | false=>rw [zaai] at h;cases h
 | true=>exact ⟨rfl,by rw [zaam] at h;exact h⟩
variable {k j:Nat}
theorem zaxK {f:Nat}(h:k<=f):half k<=f:=Nat.le_trans (Nat.div_le_self k 2) h
theorem zajD (h:zadB j=zadB k)(hd:half j=half k):j=k:=by
 have e1:j / 2=k / 2:=hd
 have e2:((j % 2).beq 1)=((k % 2).beq 1):=h
 have hj:j % 2=0∨j % 2=1:=by omega
 have hk:k % 2=0∨k % 2=1:=by omega
 rcases hj with hj|hj<;>rcases hk with hk|hk<;>simp [hj,hk] at e2<;>omega
theorem zaol (h:zadB j=true)(hb:zadB k=false):¬j+1=k+1:=by grind
theorem zajC (hd:¬half j=half k):¬j+1=k+1:=fun e=>hd (by
 have:j=k:=by omega
 rw [this])
theorem zanI {α:Type}(o:Option α):∀ (f k:Nat) (j:Nat),k<=f->tget (tone o f k) j=if j=k then o else none:=by
 intro f
 induction f with
 | zero =>
  intro k j hk
  obtain rfl:k=0:=by omega
  rw [zaj]
  cases j with
  | zero=>simp [zab0]
  | succ j => cases h : zadB j
              · rw [zabn _ _ _ _ h];simp [zab1]
              · rw [zaa6 _ _ _ _ h];simp [zab1]
 | succ f ih =>
  intro k j hk
  cases k with
  | zero =>
   rw [zaj]
   cases j with
   | zero=>simp [zab0]
   | succ j => cases h : zadB j
               · rw [zabn _ _ _ _ h];simp [zab1]
               · rw [zaa6 _ _ _ _ h];simp [zab1]
  | succ k =>
   have hk':half k<=f:=zaxK (by omega)
   cases hb:zadB k
   · rw [zanG _ _ _ hb]
     cases j with
     | zero=>simp [zab0]
     | succ j =>
       cases h:zadB j
       · rw [zabn _ _ _ _ h,ih _ _ hk']
         by_cases hd:half j=half k
         · have:=zajD (h.trans hb.symm) hd;subst this;simp
         · rw [if_neg hd,if_neg (zajC hd)]
       · rw [zaa6 _ _ _ _ h,zab1,if_neg (zaol h hb)]
   · rw [zak4 _ _ _ hb]
     cases j with
     | zero=>simp [zab0]
     | succ j =>
       cases h:zadB j
       · rw [zabn _ _ _ _ h,zab1,if_neg (fun e=>zaol hb h e.symm)]
       · rw [zaa6 _ _ _ _ h,ih _ _ hk']
         by_cases hd:half j=half k
         · have:=zajD (h.trans hb.symm) hd;subst this;simp
         · rw [if_neg hd,if_neg (zajC hd)]
theorem zaja {α:Type}(o:Option α):∀ (t:Tr α) (k j:Nat),tget (tput o t k) j=if j=k then o else tget t j:=by
 intro t
 induction t with
 | nil=>intro k j;rw [zarp,zanI _ _ _ _ (Nat.le_refl _),zab1]
 | node x l r il ir =>
  intro k j
  cases k with
  | zero =>
   rw [zai8]
   cases j with
   | zero=>simp [zab0]
   | succ j => cases h : zadB j
               · rw [zabn _ _ _ _ h,zabn _ _ _ _ h];simp
               · rw [zaa6 _ _ _ _ h,zaa6 _ _ _ _ h];simp
  | succ k =>
   cases hb:zadB k
   · rw [zai9 _ _ _ _ _ hb]
     cases j with
     | zero=>simp [zab0]
     | succ j =>
       cases h:zadB j
       · rw [zabn _ _ _ _ h,zabn _ _ _ _ h,il]
         by_cases hd:half j=half k
         · have:=zajD (h.trans hb.symm) hd;subst this;simp
         · rw [if_neg hd,if_neg (zajC hd)]
       · rw [zaa6 _ _ _ _ h,zaa6 _ _ _ _ h,if_neg (zaol h hb)]
   · rw [zag9 _ _ _ _ _ hb]
     cases j with
     | zero=>simp [zab0]
     | succ j =>
       cases h:zadB j
       · rw [zabn _ _ _ _ h,zabn _ _ _ _ h,if_neg (fun e=>zaol hb h e.symm)]
       · rw [zaa6 _ _ _ _ h,zaa6 _ _ _ _ h,ir]
         by_cases hd:half j=half k
         · have:=zajD (h.trans hb.symm) hd;subst this;simp
         · rw [if_neg hd,if_neg (zajC hd)]
abbrev aget {α:Type}(t:Tr α)(k:Nat):Option α:=tget t k
abbrev aset {α:Type}(t:Tr α)(k:Nat)(e:α):Tr α:=tput (some e) t k
abbrev adel {α:Type}(t:Tr α)(k:Nat):Tr α:=tput none t k
theorem zaax {α:Type}(k:Nat):aget (.nil:Tr α) k=none:=zab1 k
theorem zaad {α:Type}(t:Tr α)(i:Nat)(e:α)(j:Nat):aget (aset t i e) j=if j=i then some e else aget t j:=zaja _ _ _ _
theorem zabR {α:Type}(t:Tr α)(i j:Nat):aget (adel t i) j=if j=i then none else aget t j:=zaja _ _ _ _
def restr {α:Type}:List Nat->Tr α->Tr α
 | [],_ => .nil
 | l::r,t=>match aget t l with
  | some e=>aset (restr r t) l e
  | none=>restr r t
theorem zaeP {α:Type}(t:Tr α):∀ (fp:List Nat) (l:Nat),aget (restr fp t) l=if l∈fp then aget t l else none
 | [],l=>by simp [restr,zab1]
 | m::r,l=>by
  unfold restr
  have ih:=zaeP t r l
  by_cases hm:l=m
  · subst hm
    cases he:aget t l with
    | some e=>simp only [zaad,if_true];simp
    | none =>
      simp only
      rw [ih]
      split
      · rw [he];simp
      · simp
  · cases he:aget t m with
    | some e=>simp only [zaad,hm,if_false];rw [ih];simp [hm]
    | none=>simp only;rw [ih];simp [hm]
theorem zacZ {α:Type}(fp:List Nat)(t:Tr α)(l:Nat)(e:α)(h:aget (restr fp t) l=some e):l∈fp/\aget t l=some e:=by grind [zaeP]
theorem zanX {α:Type}{fp:List Nat}{t:Tr α}{l:Nat}{e:α}(hl:l∈fp)(h:aget t l=some e):aget (restr fp t) l=some e:=by
 rw [zaeP,if_pos hl];exact h
end
end Go.AS
