/- Conversions between strings and bytes; made slices. -/
import Derived.Test.YtnenknghinpliaaGreatDoorASj
import Derived.Laws.BytesString
namespace Go.AS
noncomputable section

def byteA (b : UInt8) : AV := .lit (.int .u8 b.toNat)
def bytesOf : List AV → Option (List UInt8)
  | [] => some []
  | .lit (.int .u8 n) :: r => (bytesOf r).map (UInt8.ofNat n.toNat :: ·)
  | _ => none
theorem bytesOf_map (l : List UInt8) : bytesOf (l.map byteA) = some l := by
  induction l with
  | nil => rfl
  | cons b l ih => simp [bytesOf, byteA, ih]
theorem bytesOf_sound {E : Env} : ∀ {xs : List AV} {cs : List Value} {l : List UInt8}, RR E .cs xs cs → bytesOf xs = some l → ∃ ns : List Int, cs = ns.map (Value.int .u8) ∧ ns.map (fun n => UInt8.ofNat n.toNat) = l
  | [], cs, l, h, hb => by obtain rfl := h.cs_nil_inv; simp [bytesOf] at hb; subst hb; exact ⟨[], rfl, rfl⟩
  | x :: xs, cs, l, h, hb => by
    obtain ⟨v, cs', h1, h2, rfl⟩ := h.cs_cons_inv
    unfold bytesOf at hb
    split at hb
    · rename_i h0; cases h0
    · rename_i n r h0; cases h0
      have := h1.lit_inv; subst this
      simp only [Option.map_eq_some_iff] at hb
      obtain ⟨l', hl, rfl⟩ := hb
      obtain ⟨ns, rfl, rfl⟩ := bytesOf_sound h2 hl
      exact ⟨n :: ns, by simp [Value.cells], by simp⟩
    · cases hb
theorem foldl_push (ns : List Int) : ∀ s : ByteArray, ns.foldl (fun r n => r.push (UInt8.ofNat n.toNat)) s = ⟨⟨s.data.toList ++ ns.map (fun n => UInt8.ofNat n.toNat)⟩⟩ := by
  induction ns with
  | nil => intro s; simp
  | cons n ns ih => intro s; rw [List.foldl_cons, ih]; simp [ByteArray.push]

def isByteSlice (B : Tb) (T : TI) : Option TypeId :=
  match T.desc with
  | .slice e => match ti B e with
    | some U => match U.desc with
      | .int .u8 => if U.size = 1 then some e else none
      | _ => none
    | none => none
  | _ => none
/-- Is it a value of its kind? -/
def inR (k : IntKind) (n : Int) : Bool :=
  match k.signed with
  | true => decide (-(2 ^ (k.bits - 1) : Int) ≤ n) && decide (n < (2 ^ (k.bits - 1) : Int))
  | false => decide (0 ≤ n) && decide (n < (2 ^ k.bits : Int))
theorem wrap_inR {k : IntKind} {n : Int} (h : inR k n = true) : k.wrap n = n := by
  have key : ∀ lo hi : Int, (decide (lo ≤ n) && decide (n < hi)) = true → lo ≤ n ∧ n < hi := fun lo hi h => by
    simpa only [Bool.and_eq_true, decide_eq_true_eq] using h
  cases k <;> (
    obtain ⟨h1, h2⟩ := key _ _ h
    simp only [IntKind.bits, Nat.reduceSub, Int.reducePow, Int.reduceNeg] at h1 h2
    simp only [IntKind.wrap, IntKind.signed, IntKind.bits, Nat.reduceSub, Int.reducePow, Bool.true_and, Bool.false_and, decide_eq_true_eq, Bool.false_eq_true, if_false, ge_iff_le]
    first | omega | (split <;> omega))
/-- Sums of signed numbers, with the demand that they fit; of others, wrapped. -/
def fit (k : IntKind) (n : Int) : Value × Bool :=
  match k.signed with
  | true => (.int k n, inR k n)
  | false => (.int k (k.wrap n), true)
theorem fit_sound {k : IntKind} {n : Int} (h : (fit k n).2 = true) : (fit k n).1 = .int k (k.wrap n) := by
  unfold fit at h ⊢
  split at h
  · simp only at h; rename_i hs; simp only [hs]; rw [wrap_inR h]
  · rename_i hs; simp only [hs]
def arithE (op : BinOp) (u v : Value) : Option (Value × Bool) :=
  match u, v with
  | .int k a, .int k' b => if k = k' then match op with
      | .add => some (fit k (a + b))
      | .sub => some (fit k (a - b))
      | .mul => some (fit k (a * b))
      | .quo => some ((fit k (a.tdiv b)).1, (fit k (a.tdiv b)).2 && !(b == 0))
      | .rem => some (.int k (a.tmod b), !(b == 0))
      | _ => none
    else none
  | .string a, .string b => match op with
    | .add => some (.string (a ++ b), decide (a.size + b.size ≤ 9223372036854775807))
    | _ => none
  | _, _ => none
theorem arith_sound {P : Program} {op : BinOp} {t : TypeId} {xo yo : Operand} {u v z : Value} {g : Bool} (h : arithE op u v = some (z, g)) (hg : g = true) (w : World) : (do eqGuard op t xo yo u v; binOp op t u v : Sem Value).run P w = .ok z w := by
  unfold arithE at h
  split at h
  · rename_i k a k' b
    split at h
    · rename_i hk; subst hk
      split at h
      · have h' := Option.some.inj h
        have e := fit_sound (k := k) (n := a + b) (by rw [h']; exact hg)
        rw [h'] at e; simp only at e; subst e
        simp [eqGuard, binOp, Op.intArith]
      · have h' := Option.some.inj h
        have e := fit_sound (k := k) (n := a - b) (by rw [h']; exact hg)
        rw [h'] at e; simp only at e; subst e
        simp [eqGuard, binOp, Op.intArith]
      · have h' := Option.some.inj h
        have e := fit_sound (k := k) (n := a * b) (by rw [h']; exact hg)
        rw [h'] at e; simp only at e; subst e
        simp [eqGuard, binOp, Op.intArith]
      · have h' := Option.some.inj h
        obtain ⟨rfl, rfl⟩ := Prod.mk.inj h'
        rw [Bool.and_eq_true] at hg
        have hb : b ≠ 0 := by simpa using hg.2
        rw [fit_sound hg.1]
        simp [eqGuard, binOp, Op.intDiv, hb]
      · have h' := Option.some.inj h
        obtain ⟨rfl, rfl⟩ := Prod.mk.inj h'
        have hb : b ≠ 0 := by simpa using hg
        simp [eqGuard, binOp, Op.intDiv, hb]
      · cases h
    · cases h
  · rename_i a b
    split at h
    · have h' := Option.some.inj h
      obtain ⟨rfl, rfl⟩ := Prod.mk.inj h'
      have hb := of_decide_eq_true hg
      have hm : ¬ (((a.size + b.size : Nat) : Int) > IntKind.i64.max) := by
        have : IntKind.i64.max = 9223372036854775807 := by decide
        omega
      simp only [eqGuard, binOp, Op.stringOp, hm, if_false]
      rfl
    · cases h
  · cases h
def intConvE (B : Tb) (src dst : TypeId) (v : Value) : Option (Value × Bool) :=
  match v with
  | .int _ n => match ti B src, ti B dst with
    | some _, some D => match D.desc with
      | .int k => some (fit k n)
      | _ => none
    | _, _ => none
  | _ => none
theorem intConv_sound {P : Program} {B : Tb} [TbOk B P] {src dst : TypeId} {v z : Value} {g : Bool} (h : intConvE B src dst v = some (z, g)) (hg : g = true) (w : World) : (convert src dst v).run P w = .ok z w := by
  unfold intConvE at h
  split at h
  · rename_i k0 n
    split at h
    · rename_i S D hS hD
      split at h
      · rename_i k hd
        have h' := Option.some.inj h
        have e := fit_sound (k := k) (n := n) (by rw [h']; exact hg)
        rw [h'] at e; simp only at e; subst e
        simp only [convert, Sem.run_bind, run_ti_underlying hS, run_ti_underlying hD, Result.andThen_ok, hd]
        cases S.desc <;> rfl
      · cases h
    · cases h
  · cases h
/-- A conversion: a plain value's, or bytes to a string. -/
def convE (B : Tb) (src dst : TypeId) (look : Nat → Option Ent) (x : AV) : Option AV :=
  match x with
  | .lit (.string s) => match ti B src, ti B dst with
    | some _, some D => match D.desc with
      | .string => some (.lit (.string s))
      | _ => none
    | _, _ => none
  | .lit (.int _ n) => match ti B src, ti B dst with
    | some _, some D => match D.desc with
      | .string => some (.lit (.string (Utf8.encode n)))
      | _ => none
    | _, _ => none
  | x => match ti B src, ti B dst with
    | some S, some D => match isByteSlice B S, D.desc with
      | some _, .string => match elems look 1 x with
        | some xs => (bytesOf xs).map fun l => .lit (.string ⟨⟨l⟩⟩)
        | none => none
      | _, _ => none
    | _, _ => none
theorem conv_sound {P : Program} {B : Tb} [TbOk B P] {src dst : TypeId} {E : Env} {τ : Hp} {w : World} (hh : Holds E τ w) {look : Nat → Option Ent} (hl : ∀ l e, look l = some e → aget τ l = some e) {x y : AV} {v : Value} (hx : VR E x v)
    (h : convE B src dst look x = some y) : ∃ u, (convert src dst v).run P w = .ok u w ∧ VR E y u := by
  unfold convE at h
  split at h
  · have := hx.lit_inv; subst this
    split at h
    · rename_i S D hS hD
      split at h
      · rename_i hd; cases h
        refine ⟨_, ?_, .lit _⟩
        simp only [convert, Sem.run_bind, run_ti_underlying hS, run_ti_underlying hD, Result.andThen_ok, hd]
        cases S.desc <;> rfl
      · cases h
    · cases h
  · have := hx.lit_inv; subst this
    split at h
    · rename_i S D hS hD
      split at h
      · rename_i hd; cases h
        refine ⟨_, ?_, .lit _⟩
        simp only [convert, Sem.run_bind, run_ti_underlying hS, run_ti_underlying hD, Result.andThen_ok, hd]
        cases S.desc <;> rfl
      · cases h
    · cases h
  · split at h
    · rename_i S D hS hD
      split at h
      · rename_i e hb hd
        split at h
        · rename_i xs hxs
          simp only [Option.map_eq_some_iff] at h
          obtain ⟨l, h1, rfl⟩ := h
          unfold isByteSlice at hb
          split at hb
          · rename_i e' hsd
            split at hb
            · rename_i U hU
              split at hb
              · rename_i hud
                split at hb
                · cases hb
                  obtain ⟨_, _, hSu, _⟩ := ti_spec (P := P) hS
                  obtain ⟨_, _, hDu, _⟩ := ti_spec (P := P) hD
                  obtain ⟨_, _, hUu, _⟩ := ti_spec (P := P) hU
                  rw [hsd] at hSu; rw [hd] at hDu; rw [hud] at hUu
                  obtain ⟨hf, a, c, rfl, hlc, hcase⟩ := elems_sound hh hl hx hxs
                  refine ⟨_, ?_, .lit _⟩
                  rw [run_convert_bytes_string w src dst _ a _ c hSu hUu hDu]
                  rcases hcase with rfl | ⟨b, o, cells, t, fz, cs, rest, rfl, g1, g2, g3, g4⟩
                  · simp [bytesOf] at h1; subst h1
                    cases a with
                    | none => simp only [Conv.bytesToString, Sem.run_pure]; rfl
                    | some a =>
                      exact run_bytesToString (P := P) w a 0 c [] (by simp [loadCells, loadCellsFrom])
                  · obtain ⟨ns, rfl, rfl⟩ := bytesOf_sound g2 h1
                    have hlen : xs.length = (ns.map (Value.int .u8)).length := by rw [g2.cs_length, AV.fszs_uniform hf]; simp
                    have := run_bytesToString (P := P) w ⟨b, o, none⟩ xs.length c ns (by rw [hlen]; exact run_load_cells g1 g3)
                    rw [this, foldl_push]; simp
                · cases hb
              · cases hb
            · cases hb
          · cases hb
        · cases h
      · cases h
    · cases h
/-- A string's bytes, in a slice of their own. -/
def s2bE (B : Tb) (src dst : TypeId) (x : AV) : Option (TypeId × List UInt8) :=
  match x with
  | .lit (.string s) => match ti B src, ti B dst with
    | some S, some D => match S.desc, isByteSlice B D with
      | .string, some e => some (e, s.data.toList)
      | _, _ => none
    | _, _ => none
  | _ => none
theorem run_freeze_last {P : Program} {w : World} {b : Nat} {c : Array Value} {e : TypeId} (h : w.heap[b]? = some (.cells c e (0, 0))) :
    ∃ w', (markStringish ⟨b, 0, none⟩).run P w = .ok () w' ∧ w'.heap[b]? = some (.cells c e (c.size, c.size + 1)) ∧ w'.heap.size = w.heap.size ∧ (∀ k, k ≠ b → w'.heap[k]? = w.heap[k]?) ∧ w'.os = w.os ∧ w'.tape = w.tape ∧ w'.output = w.output := by
  refine ⟨w.freeze ⟨b, c.size, none⟩ 1, ?_, ?_, ?_, ?_, ?_, ?_, ?_⟩
  · have hs : w.shape? b = some (e, c.size) := by simp [World.shape?, h]
    simp [markStringish, hs]
  · simp [World.freeze, Array.getElem?_modify, h]
  · simp [World.freeze]
  · intro k hk; simp [World.freeze, Array.getElem?_modify, Ne.symm hk]
  all_goals simp [World.freeze]
theorem s2b_run {P : Program} {B : Tb} [TbOk B P] {src dst e : TypeId} {E : Env} {w : World} {x : AV} {v : Value} {l : List UInt8} (hx : VR E x v) (h : s2bE B src dst x = some (e, l)) :
    ∃ (cap : Nat) (w' : World) (c : Array Value) (fz : Nat × Nat), (convert src dst v).run P w = .ok (.slice (some ⟨w.heap.size, 0, none⟩) l.length cap) w' ∧ l.length ≤ cap ∧ c.size = cap ∧ fz = (cap, cap + 1) ∧
      (∃ rest, c.toList = l.map (fun b => Value.int .u8 b.toNat) ++ rest) ∧ w'.heap[w.heap.size]? = some (.cells c e fz) ∧ w'.heap.size = w.heap.size + 1 ∧ (∀ k, k < w.heap.size → w'.heap[k]? = w.heap[k]?) ∧ w'.os = w.os ∧ w'.tape = w.tape ∧ w'.output = w.output := by
  unfold s2bE at h
  split at h
  · rename_i s
    have := hx.lit_inv; subst this
    split at h
    · rename_i S D hS hD
      split at h
      · rename_i e' hsd hb
        cases h
        unfold isByteSlice at hb
        split at hb
        · rename_i e2 hdd
          split at hb
          · rename_i U hU
            split at hb
            · rename_i hud
              split at hb
              · cases hb
                have hlen : s.size = s.data.toList.length := by rw [Array.length_toList]; rfl
                obtain ⟨cap, hcut, hge⟩ : ∃ cap, (choose (.appendCap s.size 0 e)).run P w = .ok cap { w with drawn := w.drawn + 1 } ∧ s.size ≤ cap := by
                  refine ⟨(Question.appendCap s.size 0 e).cut (w.tape w.drawn (.appendCap s.size 0 e)), ?_, ?_⟩
                  · rw [run_choose]; simp only [Question.forced, Bool.false_eq_true, if_false]
                  · simp only [Question.cut]; omega
                let c : Array Value := s.data.map (fun b => Value.int .u8 b.toNat) ++ Array.replicate (cap - s.size) (.int .u8 0)
                have hc : c.size = cap := by simp only [c, Array.size_append, Array.size_map, Array.size_replicate]; have : s.data.size = s.size := rfl; omega
                let w1 : World := World.alloc { w with drawn := w.drawn + 1 } (.cells c e)
                have hw1 : w1.heap[w.heap.size]? = some (.cells c e (0, 0)) := by show (w.heap.push _)[w.heap.size]? = _; simp
                obtain ⟨w', g1, g2, g3, g4, g5, g6, g7⟩ := run_freeze_last (P := P) hw1
                refine ⟨cap, w', c, (cap, cap + 1), ?_, by omega, hc, rfl, ⟨(Array.replicate (cap - s.size) (Value.int .u8 0)).toList, by simp [c]⟩, by rw [← hc]; exact g2, ?_, ?_, g5, g6, g7⟩
                · simp only [convert, Sem.run_bind, run_ti_underlying hS, run_ti_underlying hD, Result.andThen_ok, hsd, hdd, run_ti_underlying hU, hud, Conv.stringToBytes, hcut, newRow, run_newObj, Sem.run_pure]
                  rw [show ({ heap := w.heap.push (Obj.cells (Array.map (fun b => Value.int IntKind.u8 ↑b.toNat) s.data ++ Array.replicate (cap - s.size) (Value.int IntKind.u8 0)) e), tape := w.tape, drawn := w.drawn + 1, os := w.os, output := w.output } : World) = w1 from rfl, g1]
                  simp only [Result.andThen_ok, Sem.run_pure]
                  rw [hlen]
                · rw [g3]; show (w.heap.push _).size = _; simp
                · intro k hk
                  rw [g4 k (by omega)]; show (w.heap.push _)[k]? = _; rw [Array.getElem?_push, if_neg (by omega)]
              · cases hb
            · cases hb
          · cases hb
        · cases hb
      · cases h
    · cases h
  · cases h
end
end Go.AS
