/- Operations over values that are not known: comparisons of arrays. -/
import Derived.Test.YtihjokkmkdhhpaaDoorAWa
namespace Go.AS
noncomputable section

def intsOf (xs : Array Value) : List Int := xs.toList.map fun | .int _ n => n | _ => 0
def isKind (k : IntKind) : Value → Bool
  | .int k' _ => decide (k' = k)
  | _ => false
/-- So many numbers of a kind. -/
def flatK (k : IntKind) (n : Nat) (xs : Array Value) : Bool := decide (xs.size = n) && xs.toList.all (isKind k)
/-- An array's type of numbers: how many, of which kind. -/
def arrK (B : Tb) (t : TypeId) : Option (Nat × IntKind) :=
  match ti B t with
  | some T => match T.desc with
    | .array n e => match ti B e with
      | some U => match U.desc, U.agg, Nat.beq U.size 1 with
        | .int k, false, true => some (n, k)
        | _, _, _ => none
      | none => none
    | _ => none
  | none => none
theorem eqCells_ints {q : Value → Value → Option Bool} {k : IntKind} (hq : ∀ a b : Int, q (.int k a) (.int k b) = some (a == b)) : ∀ (n : Nat) (xs ys : List Value), xs.length = n → ys.length = n → xs.all (isKind k) = true → ys.all (isKind k) = true →
    eqCells q n xs ys = some (decide ((xs.map fun | .int _ n => n | _ => 0) = (ys.map fun | .int _ n => n | _ => (0 : Int))))
  | 0, xs, ys, hx, hy, _, _ => by
    obtain rfl := List.eq_nil_of_length_eq_zero hx
    obtain rfl := List.eq_nil_of_length_eq_zero hy
    simp [eqCells]
  | n + 1, [], ys, hx, _, _, _ => by cases hx
  | n + 1, x :: xs, [], _, hy, _, _ => by cases hy
  | n + 1, x :: xs, y :: ys, hx, hy, h1, h2 => by
    rw [List.all_cons, Bool.and_eq_true] at h1 h2
    obtain ⟨a, rfl⟩ : ∃ a, x = .int k a := by
      have := h1.1; unfold isKind at this; split at this
      · rename_i k' a; exact ⟨a, by rw [of_decide_eq_true this]⟩
      · cases this
    obtain ⟨b, rfl⟩ : ∃ b, y = .int k b := by
      have := h2.1; unfold isKind at this; split at this
      · rename_i k' b; exact ⟨b, by rw [of_decide_eq_true this]⟩
      · cases this
    have ih := eqCells_ints hq n xs ys (by simpa using hx) (by simpa using hy) h1.2 h2.2
    unfold eqCells
    rw [hq]
    by_cases hab : a = b
    · subst hab; simp only [beq_self_eq_true, ih, List.map_cons]; congr 1; simp
    · have : (a == b) = false := by simpa using hab
      rw [this]; simp [hab]
theorem eqArr_ints {B : Tb} {t : TypeId} {n : Nat} {k : IntKind} (h : arrK B t = some (n, k)) {xs ys : Array Value} (hx : flatK k n xs = true) (hy : flatK k n ys = true) :
    eqArr B t xs.toList ys.toList = some (decide (intsOf xs = intsOf ys)) := by
  unfold arrK at h
  split at h
  · rename_i T hT
    split at h
    · rename_i m e hd
      split at h
      · rename_i U hU
        split at h
        · rename_i hUd hag hsz; cases h
          simp only [flatK, Bool.and_eq_true, decide_eq_true_eq] at hx hy
          unfold eqArr
          rw [hT]; simp only [hd, hU]
          have hb1 : Nat.ble n xs.toList.length = true := by simp [hx.1]
          have hb2 : Nat.ble n ys.toList.length = true := by simp [hy.1]
          have hf : flatD U.desc = true := by rw [hUd]; rfl
          simp only [hf, hag, hsz, hb1, hb2]
          exact eqCells_ints (fun a b => by simp only [eqE, hU, hUd, if_true]) n _ _ (by simpa using hx.1) (by simpa using hy.1) hx.2 hy.2
        · cases h
      · cases h
    · cases h
  · cases h
/-- The cells of an array's value, where they are seen. -/
def litsA : List AV → Option (List Value)
  | [] => some []
  | .lit v :: r => match litsA r with
    | some vs => some (v :: vs)
    | none => none
  | _ :: _ => none
def cellsV : AV → Option (List Value)
  | .lit (.agg cs) => some cs.toList
  | .agg xs => litsA xs
  | _ => none
def strsOf (xs : List Value) : List ByteArray := xs.map fun | .string s => s | _ => ByteArray.empty
def intsL (xs : List Value) : List Int := xs.map fun | .int _ n => n | _ => 0
def isStr : Value → Bool
  | .string _ => true
  | _ => false
def isScal : Value → Bool
  | .string _ => true
  | .int _ _ => true
  | _ => false
/-- The byte at a place. -/
def byteAt (s : ByteArray) (n : Nat) : Nat := (s.data.getD n 0).toNat
/-- An element at a place that is not known. -/
def symIdx (B : Tb) (t : TypeId) (u : AV) (n : Int) : Option (AV × Bool) :=
  match ti B t with
  | some T => match T.desc with
    | .array len e => match ti B e, cellsV u with
      | some U, some vs => match Nat.beq U.size 1, U.agg with
        | true, false => match U.desc with
          | .int k => some (.lit (.int k ((intsL vs).getD n.toNat 0)), decide (0 ≤ n ∧ n < len) && (decide (vs.length = len) && vs.all (isKind k)))
          | .string => some (.lit (.string ((strsOf vs).getD n.toNat ByteArray.empty)), decide (0 ≤ n ∧ n < len) && (decide (vs.length = len) && vs.all isStr))
          | _ => none
        | _, _ => none
      | _, _ => none
    | .string => match u with
      | .lit (.string s) => some (.lit (.int .u8 (byteAt s n.toNat)), decide (0 ≤ n ∧ n < s.size))
      | _ => none
    | _ => none
  | none => none
theorem litsA_getAts : ∀ (xs : List AV) (vs : List Value), litsA xs = some vs → (∀ v ∈ vs, isScal v = true) → ∀ (j : Nat), AV.getAts xs j 1 false = (vs[j]?).map .lit
  | [], vs, h, _, j => by cases h; simp [AV.getAts]
  | x :: xs, vs, h, h1, j => by
    unfold litsA at h
    split at h
    · cases ‹_ :: _ = []›
    · rename_i v r he; cases he
      split at h
      · rename_i us hus; cases h
        have hv := h1 v (List.mem_cons_self ..)
        have hsz : (AV.lit v).fsz = 1 := by cases v <;> first | (cases hv; done) | rfl
        rw [AV.getAts, hsz]
        cases j with
        | zero =>
          simp only [Nat.lt_one_iff, if_true, List.getElem?_cons_zero, Option.map_some]
          rw [AV.getAt]
          cases v <;> first | (cases hv; done) | simp [litAt]
        | succ j =>
          rw [if_neg (by omega), Nat.add_sub_cancel, litsA_getAts xs us hus (fun u hu => h1 u (List.mem_cons_of_mem _ hu)) j]
          simp
      · cases h
    · cases h
def idxC (u : AV) (j : Nat) : Option AV := match u with
  | .lit (.agg cs) => litAt (.agg cs) (j * 1) 1 false
  | .agg xs => AV.getAts xs (j * 1) 1 false
  | _ => none
theorem cellsV_get {u : AV} {vs : List Value} (h : cellsV u = some vs) (h1 : ∀ v ∈ vs, isScal v = true) (j : Nat) : idxC u j = (vs[j]?).map AV.lit := by
  unfold cellsV at h
  unfold idxC
  split at h
  · cases h
    simp [litAt]
  · simp only [Nat.mul_one]
    exact litsA_getAts _ _ h h1 j
  · cases h
theorem symIdx_eq {B : Tb} {t : TypeId} {T : TI} (hT : ti B t = some T) {u y : AV} {n : Int} {ok : Bool} (h : symIdx B t u n = some (y, ok)) (hok : ok = true) : indexE B T u n = some y := by
  unfold symIdx at h
  rw [hT] at h
  simp only at h
  unfold indexE
  split at h
  · rename_i len e hd
    simp only [hd]
    split at h
    · rename_i U vs hU hvs
      simp only [hU]
      split at h
      · rename_i hsz hag
        have hsz : U.size = 1 := Nat.eq_of_beq_eq_true hsz
        have main : (0 ≤ n ∧ n < len) → (∀ v ∈ vs, isScal v = true) → (vs[n.toNat]?).map AV.lit = some y → (if 0 ≤ n ∧ n < len then match u with
            | .lit (.agg cs) => litAt (.agg cs) (n.toNat * U.size) U.size U.agg
            | .agg xs => AV.getAts xs (n.toNat * U.size) U.size U.agg
            | _ => none else none) = some y := by
          intro h1 h2 h3
          rw [if_pos h1, hsz, hag]
          have e := (cellsV_get hvs h2 n.toNat).trans h3
          unfold idxC at e
          exact e
        split at h
        · rename_i k hk; cases h
          simp only [Bool.and_eq_true, decide_eq_true_eq] at hok
          obtain ⟨h1, h2, h3⟩ := hok
          rw [List.all_eq_true] at h3
          refine main h1 (fun v hv => ?_) ?_
          · have := h3 v hv; unfold isKind at this; split at this
            · rfl
            · cases this
          · have hlt : n.toNat < vs.length := by omega
            rw [List.getElem?_eq_getElem hlt]
            have hmem := h3 _ (List.getElem_mem hlt)
            unfold isKind at hmem
            split at hmem
            · rename_i k' a he
              have hk' : k' = k := of_decide_eq_true hmem
              have e1 : (intsL vs).getD n.toNat 0 = a := by
                rw [List.getD_eq_getElem?_getD, intsL, List.getElem?_map, List.getElem?_eq_getElem hlt, he]; rfl
              rw [he, e1, hk']; rfl
            · cases hmem
        · rename_i hk; cases h
          simp only [Bool.and_eq_true, decide_eq_true_eq] at hok
          obtain ⟨h1, h2, h3⟩ := hok
          rw [List.all_eq_true] at h3
          refine main h1 (fun v hv => ?_) ?_
          · have := h3 v hv; unfold isStr at this; split at this
            · rfl
            · cases this
          · have hlt : n.toNat < vs.length := by omega
            rw [List.getElem?_eq_getElem hlt]
            have hmem := h3 _ (List.getElem_mem hlt)
            unfold isStr at hmem
            split at hmem
            · rename_i a he
              have e1 : (strsOf vs).getD n.toNat ByteArray.empty = a := by
                rw [List.getD_eq_getElem?_getD, strsOf, List.getElem?_map, List.getElem?_eq_getElem hlt, he]; rfl
              rw [he, e1]; rfl
            · cases hmem
        · cases h
      · cases h
    · cases h
  · rename_i hd
    simp only [hd]
    split at h
    · rename_i s; cases h
      have hok := of_decide_eq_true hok
      show (if 0 ≤ n then Option.map (fun b => AV.lit (Value.int IntKind.u8 ↑b.toNat)) s[n.toNat]? else none) = _
      rw [if_pos hok.1]
      have hlt : n.toNat < s.size := by omega
      have e1 : s[n.toNat]? = some (s.data.getD n.toNat 0) := by
        rw [getElem?_pos s n.toNat hlt]
        congr 1
        show s.data[n.toNat] = _
        have hlt' : n.toNat < s.data.size := hlt
        rw [Array.getD_eq_getD_getElem?, Array.getElem?_eq_getElem hlt']; rfl
      rw [e1]; rfl
    · cases h
  · cases h
/-- A part of a string at places that are not known. -/
def symCut (B : Tb) (t : TypeId) (x : AV) (lo hi mx : Option Int) : Option (AV × Bool) :=
  match ti B t with
  | some T => match T.desc with
    | .string => match x with
      | .lit (.string s) => some (.lit (.string (s.extract (lo.getD 0).toNat (hi.getD s.size).toNat)), decide (0 ≤ lo.getD 0 ∧ lo.getD 0 ≤ hi.getD s.size ∧ hi.getD s.size ≤ s.size ∧ mx.isSome = false))
      | _ => none
    | _ => none
  | none => none
theorem symCut_eq {B : Tb} {t : TypeId} {T : TI} (hT : ti B t = some T) {x y : AV} {lo hi mx : Option Int} {ok : Bool} (h : symCut B t x lo hi mx = some (y, ok)) (hok : ok = true) (look : Nat → Option Ent) : sliceE B T look x lo hi mx = some y := by
  unfold symCut at h
  rw [hT] at h
  simp only at h
  split at h
  · rename_i hd
    split at h
    · rename_i s; cases h
      unfold sliceE
      simp only [hd]
      rw [if_pos (of_decide_eq_true hok)]
    · cases h
  · cases h
/-- Operations whose answer is not seen from the values' shapes. -/
def symR (C : Cx) (fr : Fr) (o : Oper) : Option Res := match o.op with
  | .binOp op t x y _ => match ev C fr x, ev C fr y with
    | some (.lit (.agg xs)), some (.lit (.agg ys)) => match arrK C.B t with
      | some (n, k) => match op with
        | .eql => some ⟨.lit (.bool (decide (intsOf xs = intsOf ys))), [], flatK k n xs && flatK k n ys⟩
        | .neq => some ⟨.lit (.bool (!decide (intsOf xs = intsOf ys))), [], flatK k n xs && flatK k n ys⟩
        | _ => none
      | none => none
    | _, _ => none
  | .index t x i => match ev C fr x, ev C fr i with
    | some u, some (.lit (.int _ n)) => match symIdx C.B t u n with
      | some (y, ok) => some ⟨y, [], ok⟩
      | none => none
    | _, _ => none
  | .slice t x lo hi mx => match ev C fr x, evo C fr lo, evo C fr hi, evo C fr mx with
    | some u, some l, some h, some m => match symCut C.B t u l h m with
      | some (y, ok) => some ⟨y, [], ok⟩
      | none => none
    | _, _, _, _ => none
  | _ => none
theorem symR_op {C : Cx} {fr : Fr} {o : Oper} {q : Res} (h : symR C fr o = some q) (hok : q.ok = true) (look : Nat → Option Ent) (p : Id) : opE C fr look p o = some ⟨q.x, q.upd, true⟩ := by
  unfold symR at h
  split at h
  · rename_i op t x y z hop
    split at h
    · rename_i xs ys hx hy
      split at h
      · rename_i n k hk
        have go : ∀ (b : Bool), flatK k n xs = true ∧ flatK k n ys = true → opBinOp C fr look p o op t x y = okg (arithE op (.agg xs) (.agg ys)) (cmpE C.B op t x y (.lit (.agg xs)) (.lit (.agg ys))) := fun _ _ => by
          unfold opBinOp; simp only [hx, hy]
        split at h
        · cases h
          simp only [Bool.and_eq_true] at hok
          unfold opE; simp only [hop, go true hok]
          simp only [arithE, okg, cmpE, AV.val?, binQ, eqArr_ints hk hok.1 hok.2, okd]
        · cases h
          simp only [Bool.and_eq_true] at hok
          unfold opE; simp only [hop, go true hok]
          simp only [arithE, okg, cmpE, AV.val?, binQ, eqArr_ints hk hok.1 hok.2, okd]
        · cases h
      · cases h
    · cases h
  · rename_i t x i hop
    split at h
    · rename_i u n hu hn
      split at h
      · rename_i y ok hs; cases h
        have hT : ∃ T, ti C.B t = some T := by
          unfold symIdx at hs
          split at hs
          · rename_i T hT; exact ⟨T, hT⟩
          · cases hs
        obtain ⟨T, hT⟩ := hT
        unfold opE; simp only [hop]
        unfold opIndex; simp only [hT, hu, hn, symIdx_eq hT hs hok, okd]
      · cases h
    · cases h
  · rename_i t x lo hi mx hop
    split at h
    · rename_i u l hh m hu hl hhi hm
      split at h
      · rename_i y ok hs; cases h
        have hT : ∃ T, ti C.B t = some T := by
          unfold symCut at hs
          split at hs
          · rename_i T hT; exact ⟨T, hT⟩
          · cases hs
        obtain ⟨T, hT⟩ := hT
        unfold opE; simp only [hop]
        unfold opSlice; simp only [hT, hu, hl, hhi, hm, symCut_eq hT hs hok look, okd]
      · cases h
    · cases h
  · cases h
/-- The walk stops at an operation. -/
inductive Fail (pos : String) (dst : Nat) : Prop
/-- An operation, by what is known of its answer. -/
def opS (sy : Bool) (C : Cx) (fr : Fr) (look : Nat → Option Ent) (p : Id) (o : Oper) (K : Bool → Res → Prop) : Prop :=
  match (match sy with | true => symR C fr o | false => none) with
  | some q => K true q
  | none => match opE C fr look p o with
    | some q => K false q
    | none => Fail o.pos (o.dst.getD 0)
theorem opS_sound {sy : Bool} {C : Cx} {fr : Fr} {look : Nat → Option Ent} {p : Id} {o : Oper} {K : Bool → Res → Prop} (h : opS sy C fr look p o K) :
    ∃ b q, K b q ∧ (q.ok = true → ∃ q', opE C fr look p o = some q' ∧ q'.ok = true ∧ q'.x = q.x ∧ q'.upd = q.upd) := by
  unfold opS at h
  split at h
  · rename_i q hq
    refine ⟨true, q, h, fun hok => ⟨_, symR_op (by cases sy <;> simp_all) hok look p, rfl, rfl, rfl⟩⟩
  · split at h
    · rename_i q hq; exact ⟨false, q, h, fun hok => ⟨q, hq, hok, rfl, rfl⟩⟩
    · cases h
end
end Go.AS
