/- Proved: how an abstract heap stands to the model's memory; no condition. -/
import Derived.Test.YtaadikldoljdaaaGreatAiDefs
import Derived.Laws.Sem
import Derived.Laws.World
import Derived.Laws.NewFold
import Derived.Laws.Cells
import Derived.Laws.Entries

/- The reading of memory: abstract values and heaps against the model's own. -/
namespace Go.AI

/-! ### Trees and lists -/
section
variable {α : Type}

theorem Tr.get_zero (i : Nat) (t : Tr α) : Tr.get 0 i t = t.top := rfl
theorem Tr.get_succ (d i : Nat) (t : Tr α) : Tr.get (d + 1) i t = match t with
    | .leaf a => a
    | .node l r => if 2 ^ d ≤ i then Tr.get d (i - 2 ^ d) r else Tr.get d i l := by
  show (bif Nat.ble (2 ^ d) i then _ else _ : Tr α → α) t = _
  cases h : Nat.ble (2 ^ d) i
  · have h' : ¬ 2 ^ d ≤ i := fun hle => by rw [Nat.ble_eq_true_of_le hle] at h; cases h
    cases t <;> simp [h', Tr.get]
  · have h' : 2 ^ d ≤ i := Nat.le_of_ble_eq_true h
    cases t <;> simp [h', Tr.get]
theorem Tr.set_zero (i : Nat) (v : α) (t : Tr α) : Tr.set 0 i v t = .leaf v := rfl
theorem Tr.set_succ (d i : Nat) (v : α) (t : Tr α) : Tr.set (d + 1) i v t = match t with
    | .leaf a => if 2 ^ d ≤ i then .node (.leaf a) (Tr.set d (i - 2 ^ d) v (.leaf a)) else .node (Tr.set d i v (.leaf a)) (.leaf a)
    | .node l r => if 2 ^ d ≤ i then .node l (Tr.set d (i - 2 ^ d) v r) else .node (Tr.set d i v l) r := by
  show (bif Nat.ble (2 ^ d) i then _ else _ : Tr α → Tr α) t = _
  cases h : Nat.ble (2 ^ d) i
  · have h' : ¬ 2 ^ d ≤ i := fun hle => by rw [Nat.ble_eq_true_of_le hle] at h; cases h
    cases t <;> simp [h', Tr.set]
  · have h' : 2 ^ d ≤ i := Nat.le_of_ble_eq_true h
    cases t <;> simp [h', Tr.set]

theorem Tr.get_leaf (d i : Nat) (a : α) : Tr.get d i (.leaf a) = a := by cases d <;> simp [Tr.get_zero, Tr.get_succ, Tr.top]

theorem Tr.get_set_same (d : Nat) : ∀ (i : Nat) (v : α) (t : Tr α), Tr.get d i (Tr.set d i v t) = v := by
  induction d with
  | zero => intro i v t; rfl
  | succ d ih => intro i v t; rw [Tr.set_succ]; cases t <;> (dsimp only; split <;> (rw [Tr.get_succ]; simp [*]))

theorem Tr.get_set_ne (d : Nat) : ∀ (i j : Nat) (v : α) (t : Tr α), i < 2 ^ d → j < 2 ^ d → i ≠ j → Tr.get d j (Tr.set d i v t) = Tr.get d j t := by
  induction d with
  | zero => intro i j v t hi hj hne; simp at hi hj; omega
  | succ d ih =>
    intro i j v t hi hj hne
    rw [Tr.set_succ]
    rw [Nat.pow_succ] at hi hj
    cases t with
    | leaf a =>
      dsimp only
      split
      · rw [Tr.get_succ, Tr.get_leaf]; dsimp only
        split
        · rw [ih _ _ _ _ (by omega) (by omega) (by omega), Tr.get_leaf]
        · rw [Tr.get_leaf]
      · rw [Tr.get_succ, Tr.get_leaf]; dsimp only
        split
        · rw [Tr.get_leaf]
        · rw [ih _ _ _ _ (by omega) (by omega) (by omega), Tr.get_leaf]
    | node l r =>
      dsimp only
      split
      · rw [Tr.get_succ, Tr.get_succ]; dsimp only
        split
        · rw [ih _ _ _ _ (by omega) (by omega) (by omega)]
        · rfl
      · rw [Tr.get_succ, Tr.get_succ]; dsimp only
        split
        · rfl
        · rw [ih _ _ _ _ (by omega) (by omega) (by omega)]

theorem nth_eq (i : Nat) : ∀ l : List α, nth i l = l[i]? := by
  induction i with
  | zero => intro l; cases l <;> rfl
  | succ i ih => intro l; cases l with
    | nil => rfl
    | cons a l => show nth i l = _; rw [ih]; rfl

theorem span_eq {i n : Nat} {l s : List α} (h : span i n l = some s) : s = (l.drop i).take n ∧ i + n ≤ l.length ∨ s = [] ∧ n = 0 := by
  unfold span at h
  simp only [Bool.cond_eq_ite] at h
  split at h
  · rename_i hb
    have hb := Nat.eq_of_beq_eq_true hb
    cases h
    simp only [List.length_take, List.length_drop] at hb
    by_cases hn : n = 0
    · right; subst hn; simp
    · left; refine ⟨rfl, by omega⟩
  · cases h

theorem span_len {i n : Nat} {l s : List α} (h : span i n l = some s) : s.length = n := by
  rcases span_eq h with ⟨rfl, hle⟩ | ⟨rfl, rfl⟩
  · simp; omega
  · rfl

theorem span_get {i n : Nat} {l s : List α} (h : span i n l = some s) (k : Nat) (hk : k < n) : s[k]? = l[i + k]? ∧ i + k < l.length := by
  rcases span_eq h with ⟨rfl, hle⟩ | ⟨rfl, rfl⟩
  · rw [List.getElem?_take, if_pos hk, List.getElem?_drop]; exact ⟨rfl, by omega⟩
  · omega

theorem over_length (vs : List α) : ∀ (i : Nat) (l : List α), (over vs i l).length = l.length := by
  suffices h : ∀ (l : List α) (vs : List α) (i : Nat), (over vs i l).length = l.length from fun i l => h l vs i
  intro l
  induction l with
  | nil => intro vs i; cases i <;> rfl
  | cons x l ih => intro vs i; cases i with
    | zero => cases vs <;> simp [over, ih]
    | succ i => simp [over, ih]

theorem over_get : ∀ (l vs : List α) (i k : Nat), i + vs.length ≤ l.length → (over vs i l)[k]? = if i ≤ k ∧ k < i + vs.length then vs[k - i]? else l[k]? := by
  intro l
  induction l with
  | nil => intro vs i k h; simp at h; cases i <;> simp_all [over]
  | cons x l ih =>
    intro vs i k h
    cases i with
    | zero => cases vs with
      | nil => simp [over]
      | cons v vs => cases k with
        | zero => simp [over]
        | succ k =>
          simp only [over, List.getElem?_cons_succ]
          rw [ih vs 0 k (by simp at h ⊢; omega)]
          by_cases hk : k < vs.length
          · simp [hk]
          · simp [hk]
    | succ i => cases k with
      | zero => simp [over]
      | succ k =>
        simp only [over, List.getElem?_cons_succ]
        rw [ih vs i k (by simp at h ⊢; omega)]
        by_cases hk : i ≤ k ∧ k < i + vs.length
        · rw [if_pos hk, if_pos (by omega)]; congr 1; omega
        · rw [if_neg hk, if_neg (by omega)]
end

/-! ### Where abstract blocks lie -/

structure Loc where
  blk : Nat
  sh : Nat
  cap : Nat
  esz : Nat

abbrev Emb := Nat → Option Loc

def Emb.le (ρ ρ' : Emb) : Prop := ∀ i l, ρ i = some l → ρ' i = some l

theorem Emb.le.refl (ρ : Emb) : ρ.le ρ := fun _ _ h => h
theorem Emb.le.trans {a b c : Emb} (h : a.le b) (k : b.le c) : a.le c := fun i l e => k i l (h i l e)

def Loc.at (l : Loc) (a : Addr) : Addr := ⟨l.blk, l.sh + a.off, none⟩

inductive AdR (ρ : Emb) : Addr → Addr → Prop
  | mk {a : Addr} {l : Loc} (hs : a.spot = none) (hl : ρ a.block = some l) : AdR ρ a (l.at a)

inductive FnR (ρ : Emb) : Fn → Fn → Prop
  | func (f : FuncId) : FnR ρ (.func f) (.func f)
  | method (n : String) : FnR ρ (.method n) (.method n)
  | methodOf (t : TypeId) (n : String) : FnR ρ (.methodOf t n) (.methodOf t n)
  | via (t : TypeId) (p : Array FieldStep) (f : FuncId) (b : Bool) : FnR ρ (.via t p f b) (.via t p f b)
  | yield {l : Nat} {k : Loc} (h : ρ l = some k) : FnR ρ (.yield l) (.yield k.blk)

/-- A capacity: known, or what the row really has from here on. -/
def CapR (l : Loc) (off k k' : Nat) : Prop := if k < big then k' = k else 0 < l.cap ∧ l.cap < big ∧ 2 * big ≤ k + l.cap ∧ k ≤ 2 * big ∧ k' = k + l.cap - 2 * big ∧ off = (2 * big - k) * l.esz

mutual
inductive VR (ρ : Emb) : Value → Value → Prop
  | bool (b : Bool) : VR ρ (.bool b) (.bool b)
  | int (k : IntKind) (n : Int) : VR ρ (.int k n) (.int k n)
  | float (k : FloatKind) (n : Nat) : VR ρ (.float k n) (.float k n)
  | complex (k : FloatKind) (a b : Nat) : VR ρ (.complex k a b) (.complex k a b)
  | string (s : ByteArray) : VR ρ (.string s) (.string s)
  | pnil : VR ρ (.pointer none) (.pointer none)
  | ptr {a a' : Addr} (h : AdR ρ a a') : VR ρ (.pointer (some a)) (.pointer (some a'))
  | snil (n k : Nat) : VR ρ (.slice none n k) (.slice none n k)
  | slice {a a' : Addr} {l : Loc} {n k k' : Nat} (hs : a.spot = none) (hl : ρ a.block = some l) (hn : n ≤ k') (hk : CapR l a.off k k') (ha : 0 < k' → a' = l.at a) :
      VR ρ (.slice (some a) n k) (.slice (some a') n k')
  | mnil : VR ρ (.map none) (.map none)
  | map {r : Nat} {l : Loc} (h : ρ r = some l) : VR ρ (.map (some r)) (.map (some l.blk))
  | chan : VR ρ (.chan none) (.chan none)
  | func {fn fn' : Fn} {f f' c c' : List Value} (h : FnR ρ fn fn') (hf : VRs ρ f f') (hc : VRs ρ c c') : VR ρ (.func fn ⟨f⟩ ⟨c⟩) (.func fn' ⟨f'⟩ ⟨c'⟩)
  | nilFunc : VR ρ .nilFunc .nilFunc
  | iface {t : TypeId} {v v' : Value} (h : VR ρ v v') : VR ρ (.iface t v) (.iface t v')
  | nilIface : VR ρ .nilIface .nilIface
  | agg {c c' : List Value} (h : VRs ρ c c') : VR ρ (.agg ⟨c⟩) (.agg ⟨c'⟩)
  | tuple {c c' : List Value} (h : VRs ρ c c') : VR ρ (.tuple ⟨c⟩) (.tuple ⟨c'⟩)
inductive VRs (ρ : Emb) : List Value → List Value → Prop
  | nil : VRs ρ [] []
  | cons {v v' : Value} {l l' : List Value} (h : VR ρ v v') (hl : VRs ρ l l') : VRs ρ (v :: l) (v' :: l')
end

theorem AdR.mono {ρ ρ' : Emb} (hle : ρ.le ρ') {a a' : Addr} (h : AdR ρ a a') : AdR ρ' a a' := by
  cases h with | mk hs hl => exact .mk hs (hle _ _ hl)
theorem FnR.mono {ρ ρ' : Emb} (hle : ρ.le ρ') {a a' : Fn} (h : FnR ρ a a') : FnR ρ' a a' := by
  cases h <;> constructor; exact hle _ _ ‹_›

mutual
theorem VR.mono {ρ ρ' : Emb} (hle : ρ.le ρ') {v v' : Value} : VR ρ v v' → VR ρ' v v'
  | .bool b => .bool b
  | .int k n => .int k n
  | .float k n => .float k n
  | .complex k a b => .complex k a b
  | .string s => .string s
  | .pnil => .pnil
  | .ptr h => .ptr (h.mono hle)
  | .snil n k => .snil n k
  | .slice hs hl hn hk ha => .slice hs (hle _ _ hl) hn hk ha
  | .mnil => .mnil
  | .map h => .map (hle _ _ h)
  | .chan => .chan
  | .func h hf hc => .func (h.mono hle) (VRs.mono hle hf) (VRs.mono hle hc)
  | .nilFunc => .nilFunc
  | .iface h => .iface (VR.mono hle h)
  | .nilIface => .nilIface
  | .agg h => .agg (VRs.mono hle h)
  | .tuple h => .tuple (VRs.mono hle h)
theorem VRs.mono {ρ ρ' : Emb} (hle : ρ.le ρ') {v v' : List Value} : VRs ρ v v' → VRs ρ' v v'
  | .nil => .nil
  | .cons h hl => .cons (VR.mono hle h) (VRs.mono hle hl)
end

mutual
theorem VR.of_flat {ρ : Emb} : ∀ {v : Value}, flat v = true → VR ρ v v
  | .bool b, _ => .bool b
  | .int k n, _ => .int k n
  | .float k n, _ => .float k n
  | .complex k a b, _ => .complex k a b
  | .string s, _ => .string s
  | .pointer none, _ => .pnil
  | .pointer (some _), h => by simp [flat] at h
  | .slice none n k, _ => .snil n k
  | .slice (some _) _ _, h => by simp [flat] at h
  | .map none, _ => .mnil
  | .map (some _), h => by simp [flat] at h
  | .chan none, _ => .chan
  | .chan (some _), h => by simp [flat] at h
  | .func fn ⟨f⟩ ⟨c⟩, h => by
    simp only [flat, Bool.and_eq_true] at h
    refine .func ?_ (VRs.of_flat h.1.2) (VRs.of_flat h.2)
    cases fn <;> first | constructor | simp at h
  | .nilFunc, _ => .nilFunc
  | .iface _ v, h => .iface (VR.of_flat (by simpa [flat] using h))
  | .nilIface, _ => .nilIface
  | .agg ⟨c⟩, h => .agg (VRs.of_flat (by simpa [flat] using h))
  | .tuple ⟨c⟩, h => .tuple (VRs.of_flat (by simpa [flat] using h))
theorem VRs.of_flat {ρ : Emb} : ∀ {l : List Value}, flats l = true → VRs ρ l l
  | [], _ => .nil
  | v :: l, h => by simp only [flats, Bool.and_eq_true] at h; exact .cons (VR.of_flat h.1) (VRs.of_flat h.2)
end

mutual
theorem VR.flat_eq {ρ : Emb} : ∀ {v v' : Value}, VR ρ v v' → flat v = true → v' = v
  | _, _, .bool b, _ => rfl
  | _, _, .int k n, _ => rfl
  | _, _, .float k n, _ => rfl
  | _, _, .complex k a b, _ => rfl
  | _, _, .string s, _ => rfl
  | _, _, .pnil, _ => rfl
  | _, _, .ptr h, hf => by simp [flat] at hf
  | _, _, .snil n k, _ => rfl
  | _, _, .slice .., hf => by simp [flat] at hf
  | _, _, .mnil, _ => rfl
  | _, _, .map h, hf => by simp [flat] at hf
  | _, _, .chan, _ => rfl
  | _, _, .func h hf hc, hfl => by
    simp only [flat, Bool.and_eq_true] at hfl
    rw [VRs.flat_eq hf hfl.1.2, VRs.flat_eq hc hfl.2]
    cases h <;> first | rfl | simp at hfl
  | _, _, .nilFunc, _ => rfl
  | _, _, .iface h, hf => by rw [VR.flat_eq h (by simpa [flat] using hf)]
  | _, _, .nilIface, _ => rfl
  | _, _, .agg h, hf => by rw [VRs.flat_eq h (by simpa [flat] using hf)]
  | _, _, .tuple h, hf => by rw [VRs.flat_eq h (by simpa [flat] using hf)]
theorem VRs.flat_eq {ρ : Emb} : ∀ {l l' : List Value}, VRs ρ l l' → flats l = true → l' = l
  | _, _, .nil, _ => rfl
  | _, _, .cons h hl, hf => by
    simp only [flats, Bool.and_eq_true] at hf
    rw [VR.flat_eq h hf.1, VRs.flat_eq hl hf.2]
end

/-! ### Rows of values -/
section
variable {ρ : Emb}

theorem VRs.length {l l' : List Value} (h : VRs ρ l l') : l'.length = l.length := by
  match h with
  | .nil => rfl
  | .cons _ hl => simp [VRs.length hl]

theorem VRs.get {l l' : List Value} (h : VRs ρ l l') (i : Nat) {v : Value} (hv : l[i]? = some v) : ∃ v', l'[i]? = some v' ∧ VR ρ v v' := by
  match h, i with
  | .nil, i => simp at hv
  | .cons (v := u) (v' := v') h hl, 0 => have e : u = v := by simpa using hv
                                         exact ⟨v', rfl, e ▸ h⟩
  | .cons h hl, i + 1 => exact VRs.get hl i (by simpa using hv)

theorem VRs.of_get : ∀ {l l' : List Value}, l'.length = l.length → (∀ (i : Nat) (v v' : Value), l[i]? = some v → l'[i]? = some v' → VR ρ v v') → VRs ρ l l'
  | [], [], _, _ => .nil
  | [], _ :: _, h, _ => by simp at h
  | _ :: _, [], h, _ => by simp at h
  | v :: l, v' :: l', h, hg => .cons (hg 0 v v' rfl rfl) (VRs.of_get (by simpa using h) fun i u u' hu hu' => hg (i + 1) u u' (by simpa using hu) (by simpa using hu'))

theorem VRs.append {a a' b b' : List Value} (h : VRs ρ a a') (k : VRs ρ b b') : VRs ρ (a ++ b) (a' ++ b') := by
  match h with
  | .nil => exact k
  | .cons h hl => exact .cons h (VRs.append hl k)

theorem VRs.drop {l l' : List Value} (h : VRs ρ l l') (n : Nat) : VRs ρ (l.drop n) (l'.drop n) := by
  match h, n with
  | .nil, n => simp; exact .nil
  | .cons h hl, 0 => exact .cons h hl
  | .cons h hl, n + 1 => simpa using VRs.drop hl n

theorem VRs.take {l l' : List Value} (h : VRs ρ l l') (n : Nat) : VRs ρ (l.take n) (l'.take n) := by
  match h, n with
  | .nil, n => simp; exact .nil
  | .cons h hl, 0 => exact .nil
  | .cons h hl, n + 1 => simpa using VRs.cons h (VRs.take hl n)

theorem VRs.over {vs vs' : List Value} (hv : VRs ρ vs vs') {l l' : List Value} (h : VRs ρ l l') (i : Nat) : VRs ρ (over vs i l) (over vs' i l') := by
  match h, i, hv with
  | .nil, 0, _ => exact .nil
  | .nil, i + 1, _ => exact .nil
  | .cons h hl, 0, .nil => exact .cons h hl
  | .cons h hl, 0, .cons k kl => exact .cons k (VRs.over kl hl 0)
  | .cons h hl, i + 1, hv => exact .cons h (VRs.over hv hl i)

theorem VRs.repl {z z' : List Value} (h : VRs ρ z z') (n : Nat) : VRs ρ (repl z n) (repl z' n) := by
  induction n with
  | zero => exact .nil
  | succ n ih => exact h.append ih

theorem VR.cells {v v' : Value} (h : VR ρ v v') : VRs ρ (cellsOf v) (cellsOf v') := by
  cases h <;> first | assumption | exact .cons (by constructor <;> assumption) .nil

theorem VR.oneCell {v v' : Value} (h : VR ρ v v') : oneCell v' = oneCell v := by cases h <;> rfl

theorem VRs.oneCells {l l' : List Value} (h : VRs ρ l l') : l'.all AI.oneCell = l.all AI.oneCell := by
  match h with
  | .nil => rfl
  | .cons h hl => simp [h.oneCell, VRs.oneCells hl]
end

/-! ### The heap -/

def ERel (ρ : Emb) (N : Nat) (env : Env) (tmps : Array Value) : Prop :=
  N ≤ 256 ∧ tmps.size = N ∧ ∀ t, t < N → ∃ v', tmps[t]? = some v' ∧ VR ρ (env.get (dt N) t) v'

/-- The entries of a map: the same keys and marks. -/
inductive ESR (ρ : Emb) : List MapEntry → List MapEntry → Prop
  | nil : ESR ρ [] []
  | cons {k v v' : Value} {b : Nat} {l l' : List MapEntry} (hk : flat k = true) (h : VR ρ v v') (hl : ESR ρ l l') : ESR ρ (⟨k, v, b⟩ :: l) (⟨k, v', b⟩ :: l')

def ntmpsOf (P : Program) (f : FuncId) : Nat := ((P.funcs[f]?).map (·.ntmps)).getD 0

inductive ObjR (P : Program) (ρ : Emb) (l : Loc) : AObj → Obj → Prop
  | cells {vs : List Value} {e : TypeId} {c : Array Value} {lo hi : Nat}
      (hv : ∀ (i : Nat) (v : Value), vs[i]? = some v → ∃ v', c[l.sh + i]? = some v' ∧ VR ρ v v')
      (hr : ∀ i, i < vs.length ∨ i < l.cap * P.cellsOf e → l.sh + i < c.size ∧ ¬ (lo ≤ l.sh + i ∧ l.sh + i < hi))
      (hz : 0 < l.cap → l.esz = P.cellsOf e ∧ vs.length ≤ l.cap * l.esz) : ObjR P ρ l (.cells vs e) (.cells c e (lo, hi))
  | map {es : List MapEntry} {es' : Array MapEntry} {clock : Nat} (h : ESR ρ es es'.toList) : ObjR P ρ l (.map es clock) (.map es' clock)
  | siter (s : ByteArray) (pos : Nat) (h0 : l.sh = 0) : ObjR P ρ l (.siter s pos) (.stringIter s pos)
  | miter {m since stepped : Nat} {seen : List Nat} {k : Loc} (h : ρ m = some k) (h0 : l.sh = 0) : ObjR P ρ l (.miter m since seen stepped) (.mapIter (some k.blk) since seen.toArray stepped)
  | mnil {a c : Nat} {b : Array Nat} (h0 : l.sh = 0) : ObjR P ρ l .mnil (.mapIter none a b c)
  | loop {r : ALoop} {tmps : Array Value} {d : Nat} {g : FuncId} (h : ERel ρ (ntmpsOf P r.fn) r.env tmps) :
      ObjR P ρ l (.loop r) (.loop { state := r.st, pending := r.pending, fn := g, tmps, params := r.params, assign := r.assign, body := r.body, defers := d })

structure HR (P : Program) (ρ : Emb) (A : AHeap) (w : World) : Prop where
  dom : ∀ i l, ρ i = some l → i < A.next ∧ l.blk < w.heap.size
  inj : ∀ i j l k, ρ i = some l → ρ j = some k → A.get i ≠ none → A.get j ≠ none → l.blk = k.blk → i = j
  obj : ∀ i l o, ρ i = some l → A.get i = some o → ∃ o', w.heap[l.blk]? = some o' ∧ ObjR P ρ l o o'
  top : ∀ i, A.next ≤ i → A.get i = none

/-- The blocks that the abstract heap speaks of. -/
def Own (ρ : Emb) (A : AHeap) (b : Nat) : Prop := ∃ i l, ρ i = some l ∧ A.get i ≠ none ∧ l.blk = b

structure Ext (n : Nat) (ρ : Emb) (A : AHeap) (w : World) (ρ' : Emb) (A' : AHeap) (w' : World) : Prop where
  sub : ρ.le ρ'
  old : ∀ i, i < n → ρ i = none → ρ' i = none
  next : A.next ≤ A'.next
  size : w.heap.size ≤ w'.heap.size
  kept : ∀ b, b < w.heap.size → ¬ Own ρ A b → w'.heap[b]? = w.heap[b]?
  own : ∀ b, b < w.heap.size → Own ρ' A' b → Own ρ A b
  os : w'.os = w.os
  out : w'.output = w.output
  tape : w'.tape = w.tape

theorem Ext.refl (n : Nat) (ρ : Emb) (A : AHeap) (w : World) : Ext n ρ A w ρ A w :=
  ⟨.refl _, fun _ _ h => h, Nat.le_refl _, Nat.le_refl _, fun _ _ _ => rfl, fun _ _ h => h, rfl, rfl, rfl⟩

theorem Ext.weaken {n m : Nat} {ρ ρ' : Emb} {A A' : AHeap} {w w' : World} (h : Ext n ρ A w ρ' A' w') (hle : m ≤ n) : Ext m ρ A w ρ' A' w' :=
  { h with old := fun i hi => h.old i (Nat.lt_of_lt_of_le hi hle) }

theorem Ext.trans {n m : Nat} {ρ₁ ρ₂ ρ₃ : Emb} {A₁ A₂ A₃ : AHeap} {w₁ w₂ w₃ : World} (h : Ext n ρ₁ A₁ w₁ ρ₂ A₂ w₂) (k : Ext m ρ₂ A₂ w₂ ρ₃ A₃ w₃) (hle : n ≤ m) : Ext n ρ₁ A₁ w₁ ρ₃ A₃ w₃ where
  sub := h.sub.trans k.sub
  old := fun i hi e => k.old i (Nat.lt_of_lt_of_le hi hle) (h.old i hi e)
  next := Nat.le_trans h.next k.next
  size := Nat.le_trans h.size k.size
  kept := fun b hb hn => by
    rw [k.kept b (Nat.lt_of_lt_of_le hb h.size) (fun ho => hn (h.own b hb ho)), h.kept b hb hn]
  own := fun b hb ho => h.own b hb (k.own b (Nat.lt_of_lt_of_le hb h.size) ho)
  os := k.os.trans h.os
  out := k.out.trans h.out
  tape := k.tape.trans h.tape

theorem AHeap.get_eq (A : AHeap) (i : Nat) : A.get i = if hcap ≤ i then none else RObj.norm (A.tab.get HD i) := by
  unfold AHeap.get
  cases h : Nat.ble hcap i
  · have h' : ¬ hcap ≤ i := fun hle => by rw [Nat.ble_eq_true_of_le hle] at h; cases h
    simp [h']
  · simp [Nat.le_of_ble_eq_true h]

theorem AHeap.get_put_ne (A : AHeap) {i j : Nat} (o : Option AObj) (hi : i < hcap) (h : i ≠ j) : (A.put i o).get j = A.get j := by
  rw [AHeap.get_eq, AHeap.get_eq]
  split
  · rfl
  · rename_i hj
    exact congrArg RObj.norm (Tr.get_set_ne HD i j (RObj.of o) A.tab (by simpa [HD, hcap] using hi) (by simp [HD, hcap] at hj ⊢; omega) h)

theorem AHeap.get_put_same (A : AHeap) {i : Nat} (o : Option AObj) (hi : i < hcap) : (A.put i o).get i = o := by
  rw [AHeap.get_eq, if_neg (by omega)]
  have := Tr.get_set_same HD i (RObj.of o) A.tab
  show RObj.norm (Tr.get HD i (Tr.set HD i (RObj.of o) A.tab)) = o
  rw [this]; cases o <;> rfl

theorem AHeap.lt_of_get {A : AHeap} {i : Nat} {o : AObj} (h : A.get i = some o) : i < hcap := by
  rw [AHeap.get_eq] at h
  split at h
  · cases h
  · omega

theorem AHeap.push_eq {A A' : AHeap} {o : AObj} {i : Nat} (h : A.push o = some (i, A')) : i = A.next ∧ A.next < hcap ∧ A'.next = A.next + 1 ∧ A'.get i = some o ∧ ∀ j, j ≠ i → A'.get j = A.get j := by
  unfold AHeap.push at h
  cases hb : Nat.ble hcap A.next
  · have h' : ¬ hcap ≤ A.next := fun hle => by rw [Nat.ble_eq_true_of_le hle] at hb; cases hb
    simp only [hb, cond_false, Option.some.injEq, Prod.mk.injEq] at h
    obtain ⟨rfl, rfl⟩ := h
    refine ⟨rfl, by omega, rfl, ?_, fun j hj => ?_⟩
    · rw [AHeap.get_eq, if_neg h']; show RObj.norm (Tr.get HD A.next (Tr.set HD A.next (some (.obj o)) A.tab)) = _; rw [Tr.get_set_same]; rfl
    · rw [AHeap.get_eq, AHeap.get_eq]
      split
      · rfl
      · exact congrArg RObj.norm (Tr.get_set_ne HD _ _ _ _ (by simp [HD, hcap] at h' ⊢; omega) (by simp [HD, hcap] at *; omega) (Ne.symm hj))
  · simp [hb] at h

theorem ESR.mono {ρ ρ' : Emb} (hle : ρ.le ρ') {a b : List MapEntry} (h : ESR ρ a b) : ESR ρ' a b := by
  induction h with
  | nil => exact .nil
  | cons hk h _ ih => exact .cons hk (h.mono hle) ih

theorem ERel.mono {ρ ρ' : Emb} (hle : ρ.le ρ') {N : Nat} {env : Env} {tmps : Array Value} (h : ERel ρ N env tmps) : ERel ρ' N env tmps :=
  ⟨h.1, h.2.1, fun t ht => let ⟨v', e, r⟩ := h.2.2 t ht; ⟨v', e, r.mono hle⟩⟩

theorem ObjR.mono {P : Program} {ρ ρ' : Emb} (hle : ρ.le ρ') {l : Loc} {o : AObj} {o' : Obj} (h : ObjR P ρ l o o') : ObjR P ρ' l o o' := by
  cases h with
  | cells hv hr hz => exact .cells (fun i v e => let ⟨v', e', r⟩ := hv i v e; ⟨v', e', r.mono hle⟩) hr hz
  | map h => exact .map (h.mono hle)
  | siter s p h => exact .siter s p h
  | miter h h0 => exact .miter (hle _ _ h) h0
  | mnil h => exact .mnil h
  | loop h => exact .loop (h.mono hle)

/-- The heap grew by blocks that nothing names yet. -/
structure Grow (A A' : AHeap) : Prop where
  next : A.next ≤ A'.next
  same : ∀ i, i < A.next → A'.get i = A.get i
  top : ∀ i, A'.next ≤ i → A'.get i = none

theorem HR.grow {P : Program} {ρ : Emb} {A A' : AHeap} {w : World} (h : HR P ρ A w) (g : Grow A A') : HR P ρ A' w where
  dom := fun i l e => ⟨Nat.lt_of_lt_of_le (h.dom i l e).1 g.next, (h.dom i l e).2⟩
  inj := fun i j l k ei ej hi hj e => h.inj i j l k ei ej (by rwa [g.same i (h.dom i l ei).1] at hi) (by rwa [g.same j (h.dom j k ej).1] at hj) e
  obj := fun i l o e ho => h.obj i l o e (by rwa [g.same i (h.dom i l e).1] at ho)
  top := g.top

theorem Own.grow {ρ : Emb} {A A' : AHeap} (hd : ∀ i l, ρ i = some l → i < A.next) (g : Grow A A') (b : Nat) : Own ρ A' b ↔ Own ρ A b := by
  constructor
  · rintro ⟨i, l, e, hn, hb⟩; exact ⟨i, l, e, by rwa [g.same i (hd i l e)] at hn, hb⟩
  · rintro ⟨i, l, e, hn, hb⟩; exact ⟨i, l, e, by rwa [g.same i (hd i l e)], hb⟩

theorem Grow.refl {A : AHeap} (h : ∀ i, A.next ≤ i → A.get i = none) : Grow A A := ⟨Nat.le_refl _, fun _ _ => rfl, h⟩
theorem Grow.trans {A B C : AHeap} (h : Grow A B) (k : Grow B C) : Grow A C :=
  ⟨Nat.le_trans h.next k.next, fun i hi => (k.same i (Nat.lt_of_lt_of_le hi h.next)).trans (h.same i hi), k.top⟩

theorem Grow.push {A A' : AHeap} {o : AObj} {i : Nat} (ht : ∀ i, A.next ≤ i → A.get i = none) (h : A.push o = some (i, A')) : Grow A A' := by
  obtain ⟨rfl, hlt, hn, hg, ho⟩ := AHeap.push_eq h
  exact ⟨by omega, fun j hj => ho j (by omega), fun j hj => by rw [ho j (by omega)]; exact ht j (by omega)⟩

/-- The embedding, with one place more. -/
def Emb.with (ρ : Emb) (i : Nat) (l : Loc) : Emb := fun j => if j = i then some l else ρ j

theorem Emb.with_le {ρ : Emb} {i : Nat} {l : Loc} (h : ρ i = none) : ρ.le (ρ.with i l) := fun j k e => by
  unfold Emb.with; split
  · rename_i hj; subst hj; rw [h] at e; cases e
  · exact e

@[simp] theorem Emb.with_same (ρ : Emb) (i : Nat) (l : Loc) : ρ.with i l i = some l := by simp [Emb.with]
theorem Emb.with_ne {ρ : Emb} {i j : Nat} {l : Loc} (h : j ≠ i) : ρ.with i l j = ρ j := by simp [Emb.with, h]

theorem heap_new (w : World) (o : Obj) : (w.alloc o).heap[w.heap.size]? = some o := by
  show (w.heap.push o)[w.heap.size]? = some o
  simp
theorem heap_old (w : World) (o : Obj) (i : Nat) (h : i < w.heap.size) : (w.alloc o).heap[i]? = w.heap[i]? := by
  show (w.heap.push o)[i]? = w.heap[i]?
  rw [Array.getElem?_push, if_neg (Nat.ne_of_lt h)]

/-- A block that lies in the abstract heap already is born in memory. -/
theorem HR.born {P : Program} {n : Nat} {ρ : Emb} {A : AHeap} {w : World} (h : HR P ρ A w) {i : Nat} {o : AObj} {o' : Obj} {l : Loc} (hn : ρ i = none) (hi : i < A.next) (hni : n ≤ i) (hg : A.get i = some o)
    (hl : l.blk = w.heap.size) (ho : ObjR P ρ l o o') : HR P (ρ.with i l) A (w.alloc o') ∧ Ext n ρ A w (ρ.with i l) A (w.alloc o') := by
  have hle := Emb.with_le (l := l) hn
  refine ⟨⟨?_, ?_, ?_, h.top⟩, ⟨hle, ?_, Nat.le_refl _, by simp, ?_, ?_, rfl, rfl, rfl⟩⟩
  · intro j k e
    by_cases hj : j = i
    · subst hj; simp at e; subst e; exact ⟨hi, by simp [hl]⟩
    · rw [Emb.with_ne hj] at e; exact ⟨(h.dom j k e).1, by simp; have := (h.dom j k e).2; omega⟩
  · intro a b la lb ea eb ha hb e
    by_cases h1 : a = i
    · by_cases h2 : b = i
      · omega
      · rw [Emb.with_ne h2] at eb; subst h1; simp at ea; subst ea; have := (h.dom b lb eb).2; omega
    · by_cases h2 : b = i
      · rw [Emb.with_ne h1] at ea; subst h2; simp at eb; subst eb; have := (h.dom a la ea).2; omega
      · rw [Emb.with_ne h1] at ea; rw [Emb.with_ne h2] at eb; exact h.inj a b la lb ea eb ha hb e
  · intro j k oj e hj
    by_cases h1 : j = i
    · subst h1; simp at e; subst e; rw [hg] at hj; cases hj
      exact ⟨o', by rw [hl]; exact heap_new w o', ho.mono hle⟩
    · rw [Emb.with_ne h1] at e
      obtain ⟨x, hx, hr⟩ := h.obj j k oj e hj
      exact ⟨x, by rw [heap_old w o' _ (h.dom j k e).2]; exact hx, hr.mono hle⟩
  · intro j hj e
    rw [Emb.with_ne (by omega)]; exact e
  · intro b hb _; exact heap_old w o' b hb
  · rintro b hb ⟨j, k, e, hj, he⟩
    by_cases h1 : j = i
    · subst h1; simp at e; subst e; omega
    · rw [Emb.with_ne h1] at e; exact ⟨j, k, e, hj, he⟩

/-- A new block, here and there. -/
theorem HR.push {P : Program} {ρ : Emb} {A A' : AHeap} {w : World} (h : HR P ρ A w) {i : Nat} {o : AObj} {o' : Obj} {l : Loc} (hp : A.push o = some (i, A'))
    (hl : l.blk = w.heap.size) (ho : ObjR P ρ l o o') : ρ i = none ∧ HR P (ρ.with i l) A' (w.alloc o') ∧ Ext A.next ρ A w (ρ.with i l) A' (w.alloc o') := by
  have g := Grow.push h.top hp
  obtain ⟨rfl, hlt, hn, hg, _⟩ := AHeap.push_eq hp
  have hnone : ρ A.next = none := by
    cases e : ρ A.next with
    | none => rfl
    | some l => have := (h.dom _ l e).1; omega
  obtain ⟨h1, h2⟩ := (h.grow g).born (n := A.next) hnone (by omega) (Nat.le_refl _) hg hl ho
  refine ⟨hnone, h1, ⟨h2.sub, h2.old, g.next, h2.size, fun b hb ho => h2.kept b hb fun hn => ho ((Own.grow (fun i l e => (h.dom i l e).1) g b).1 hn), fun b hb ho => (Own.grow (fun i l e => (h.dom i l e).1) g b).1 (h2.own b hb ho), rfl, rfl, rfl⟩⟩

/-- A block that lies is changed, here and there; n blocks of memory at most are turned: that one. -/
theorem HR.turn {P : Program} {ρ : Emb} {A A' : AHeap} {w w' : World} (h : HR P ρ A w) {i : Nat} {o : AObj} {o' : Obj} {l : Loc} (hl : ρ i = some l) (hi : A.get i ≠ none)
    (hA : A'.next = A.next ∧ A'.get i = some o ∧ ∀ j, j ≠ i → A'.get j = A.get j) (hw : w'.heap.size = w.heap.size ∧ w'.heap[l.blk]? = some o' ∧ ∀ j, j ≠ l.blk → w'.heap[j]? = w.heap[j]?)
    (hrest : w'.os = w.os ∧ w'.output = w.output ∧ w'.tape = w.tape) (ho : ObjR P ρ l o o') : HR P ρ A' w' ∧ Ext A.next ρ A w ρ A' w' := by
  obtain ⟨a1, a2, a3⟩ := hA
  obtain ⟨b1, b2, b3⟩ := hw
  have hne : ∀ j, A'.get j ≠ none → A.get j ≠ none := fun j hj => by
    by_cases e : j = i
    · subst e; exact hi
    · rwa [a3 j e] at hj
  refine ⟨⟨fun j k e => by rw [a1, b1]; exact h.dom j k e, fun a b la lb ea eb ha hb e => h.inj a b la lb ea eb (hne a ha) (hne b hb) e, ?_, ?_⟩, ⟨.refl _, fun _ _ e => e, by omega, by omega, ?_, ?_, hrest.1, hrest.2.1, hrest.2.2⟩⟩
  · intro j k oj e hj
    by_cases e1 : j = i
    · subst e1; rw [hl] at e; cases e; rw [a2] at hj; cases hj; exact ⟨o', b2, ho⟩
    · rw [a3 j e1] at hj
      obtain ⟨x, hx, hr⟩ := h.obj j k oj e hj
      refine ⟨x, ?_, hr⟩
      rw [b3 _ fun e2 => e1 (h.inj j i k l e hl (by rw [hj]; simp) hi e2)]; exact hx
  · intro j hj
    rw [a1] at hj
    rw [a3 j (by have := (h.dom i l hl).1; omega)]; exact h.top j hj
  · intro b hb hn
    exact b3 b fun e => hn ⟨i, l, hl, hi, e.symm⟩
  · rintro b hb ⟨j, k, e, hj, he⟩
    exact ⟨j, k, e, hne j hj, he⟩

/-- A block of the abstract heap is let go. -/
theorem HR.drop {P : Program} {ρ : Emb} {A : AHeap} {w : World} (h : HR P ρ A w) {i : Nat} (hi : i < A.next) (hc : i < hcap) : HR P ρ (A.put i none) w ∧ Ext A.next ρ A w ρ (A.put i none) w := by
  have hne : ∀ j, (A.put i none).get j ≠ none → A.get j ≠ none ∧ j ≠ i := fun j hj => by
    by_cases e : j = i
    · subst e; rw [AHeap.get_put_same A none hc] at hj; exact absurd rfl hj
    · rw [AHeap.get_put_ne A none hc (Ne.symm e)] at hj; exact ⟨hj, e⟩
  refine ⟨⟨h.dom, fun a b la lb ea eb ha hb e => h.inj a b la lb ea eb (hne a ha).1 (hne b hb).1 e, ?_, ?_⟩, ⟨.refl _, fun _ _ e => e, Nat.le_refl _, Nat.le_refl _, fun _ _ _ => rfl, ?_, rfl, rfl, rfl⟩⟩
  · intro j k oj e hj
    rw [AHeap.get_put_ne A none hc (Ne.symm (hne j (by rw [hj]; simp)).2)] at hj
    exact h.obj j k oj e hj
  · intro j hj
    rw [AHeap.get_put_ne A none hc (by show i ≠ j; have : A.next ≤ j := hj; omega)]; exact h.top j hj
  · rintro b hb ⟨j, k, e, hj, he⟩
    exact ⟨j, k, e, (hne j hj).1, he⟩

end Go.AI

/- Loads and stores of abstract blocks, in the model. -/
namespace Go.AI

theorem run_isAgg {P : Program} {t : TypeId} {b : Bool} (h : aggOf P t = some b) (w : World) : (isAgg t).run P w = .ok b w := by
  unfold aggOf at h
  unfold isAgg
  cases hu : P.underlying t with
  | none => rw [hu] at h; cases h
  | some d =>
    rw [hu] at h
    rw [Sem.run_bind, run_underlying hu w]
    cases d <;> simp_all

theorem run_typeInfo {P : Program} {t : TypeId} {i : TypeInfo} (h : P.info? t = some i) (w : World) : (typeInfo t).run P w = .ok i w := by
  simp [typeInfo, h]

theorem run_sizeOf {P : Program} {t : TypeId} {n : Nat} (h : sizeAt P t = some n) (w : World) : (sizeOf t).run P w = .ok n w := by
  unfold sizeAt at h
  cases hi : P.info? t with
  | none => rw [hi] at h; cases h
  | some i => rw [hi] at h; cases h; simp [sizeOf, run_typeInfo hi]

theorem cellsOf_size {P : Program} {t : TypeId} {n : Nat} (h : sizeAt P t = some n) : P.cellsOf t = n := by
  unfold sizeAt at h; unfold Program.cellsOf; rw [h]; rfl

theorem zeroOf_eq {P : Program} {t : TypeId} {z : Value} (h : zeroOf P t = some z) : flat z = true ∧ ∀ w, (zeroValue t).run P w = .ok z w := by
  unfold zeroOf at h
  cases hi : P.info? t with
  | none => rw [hi] at h; cases h
  | some i =>
    rw [hi] at h
    dsimp only at h
    cases hz : i.zero with
    | none => rw [hz] at h; cases h
    | some z' =>
      rw [hz] at h
      dsimp only at h
      split at h
      · cases h; rename_i hf; exact ⟨hf, fun w => by simp [zeroValue, run_typeInfo hi, hz]⟩
      · cases h

theorem pureRun_run {α : Type} {P : Program} {s : Sem α} {a : α} (h : pureRun P s = some a) (w : World) : s.run P w = .ok a w := by
  induction s with
  | pure b => simp only [pureRun, Option.some.injEq] at h; subst h; rfl
  | program k ih => exact ih P h
  | _ => simp [pureRun] at h

theorem add_at (l : Loc) (a : Addr) (n : Nat) : (l.at a).add n = ⟨l.blk, l.sh + (a.off + n), none⟩ := by
  unfold Addr.add Loc.at; split
  · simp_all
  · simp [Nat.add_assoc]

theorem at_add (l : Loc) (a : Addr) (hs : a.spot = none) (n : Nat) : l.at (a.add n) = (l.at a).add n ∧ (a.add n).spot = none ∧ (a.add n).block = a.block := by
  unfold Addr.add Loc.at; split
  · exact ⟨rfl, hs, rfl⟩
  · exact ⟨by simp [Nat.add_assoc], rfl, rfl⟩

theorem off_add (a : Addr) (n : Nat) : (a.add n).off = a.off + n := by
  unfold Addr.add; split <;> simp_all

section
variable {P : Program} {ρ : Emb} {A : AHeap} {w : World}

/-- A row's cells in memory. -/
theorem HR.row (h : HR P ρ A w) {a : Addr} {l : Loc} (hl : ρ a.block = some l) {vs : List Value} (hc : cellsAt A a = some vs) :
    ∃ e c lo hi, a.spot = none ∧ A.get a.block = some (.cells vs e) ∧ w.heap[l.blk]? = some (.cells c e (lo, hi)) ∧
      (∀ (i : Nat) (v : Value), vs[i]? = some v → ∃ v', c[l.sh + i]? = some v' ∧ VR ρ v v') ∧
      (∀ i, i < vs.length ∨ i < l.cap * P.cellsOf e → l.sh + i < c.size ∧ ¬ (lo ≤ l.sh + i ∧ l.sh + i < hi)) ∧ (0 < l.cap → l.esz = P.cellsOf e ∧ vs.length ≤ l.cap * l.esz) := by
  unfold cellsAt at hc
  split at hc
  · cases hc
  · rename_i hs
    split at hc
    · rename_i ws e hg
      cases hc
      obtain ⟨o', ho, hr⟩ := h.obj _ l _ hl hg
      cases hr with
      | cells hv hr hz => exact ⟨e, _, _, _, hs, hg, ho, hv, hr, hz⟩
    · cases hc

theorem HR.cell (h : HR P ρ A w) {a : Addr} {l : Loc} (hl : ρ a.block = some l) {vs : List Value} (hc : cellsAt A a = some vs) {i : Nat} {v : Value} (hv : vs[i]? = some v) :
    ∃ v', w.cell? ⟨l.blk, l.sh + i, none⟩ = some v' ∧ VR ρ v v' := by
  obtain ⟨e, c, lo, hi, _, _, hw, hr, _⟩ := h.row hl hc
  obtain ⟨v', h1, h2⟩ := hr i v hv
  exact ⟨v', by simp [World.cell?, hw, h1], h2⟩

/-- A row of cells is loaded. -/
theorem HR.loadCells (h : HR P ρ A w) {a : Addr} {l : Loc} (hl : ρ a.block = some l) {vs s : List Value} (hc : cellsAt A a = some vs) {n : Nat} (hs : span a.off n vs = some s) :
    ∃ s', (loadCells (l.at a) n).run P w = .ok s'.toArray w ∧ VRs ρ s s' := by
  have hlen := span_len hs
  have key : ∀ k, k < n → ∃ v', w.cell? ((l.at a).add k) = some v' ∧ ∀ v, s[k]? = some v → VR ρ v v' := by
    intro k hk
    obtain ⟨h1, h2⟩ := span_get hs k hk
    have hlt : k < s.length := by omega
    have hv : s[k]? = some s[k] := List.getElem?_eq_getElem hlt
    rw [h1] at hv
    obtain ⟨v', h3, h4⟩ := h.cell hl hc hv
    exact ⟨v', by rw [add_at]; exact h3, fun v e => by rw [List.getElem?_eq_getElem hlt] at e; cases e; exact h4⟩
  have : ∃ s' : List Value, s'.length = n ∧ ∀ k v', s'[k]? = some v' → w.cell? ((l.at a).add k) = some v' ∧ ∀ v, s[k]? = some v → VR ρ v v' := by
    clear hs hlen
    induction n with
    | zero => exact ⟨[], rfl, fun k v' e => by simp at e⟩
    | succ n ih =>
      obtain ⟨s', h1, h2⟩ := ih fun k hk => key k (by omega)
      obtain ⟨v', h3, h4⟩ := key n (by omega)
      refine ⟨s' ++ [v'], by simp [h1], fun k u e => ?_⟩
      by_cases hk : k < n
      · rw [List.getElem?_append_left (by omega)] at e; exact h2 k u e
      · rw [List.getElem?_append_right (by omega)] at e
        have hk' : k = n := by
          rcases Nat.lt_or_ge (k - s'.length) 1 with h | h
          · omega
          · rw [List.getElem?_eq_none (by simpa using h)] at e; cases e
        subst hk'
        simp [h1] at e; subst e; exact ⟨h3, h4⟩
  obtain ⟨s', h1, h2⟩ := this
  refine ⟨s', ?_, VRs.of_get (by omega) fun i v v' hv hv' => (h2 i v' hv').2 v hv⟩
  have := run_loadCells_list (P := P) w (l.at a) s' fun j v e => (h2 j v e).1
  rwa [h1] at this

theorem part_run {t : TypeId} {off : Nat} {cs cs' : List Value} {v : Value} (h : apart P t off cs = some v) (hr : VRs ρ cs cs') :
    ∃ v', (part t cs'.toArray off).run P w = .ok v' w ∧ VR ρ v v' := by
  unfold apart at h
  cases ha : aggOf P t with
  | none => simp [ha] at h
  | some b =>
    cases hz : sizeAt P t with
    | none => cases b <;> simp [ha, hz] at h
    | some n =>
      cases b with
      | true =>
        simp only [ha, hz] at h
        cases hs : span off n cs with
        | none => simp [hs] at h
        | some s =>
          simp only [hs, Option.map_some, Option.some.injEq] at h
          subst h
          refine ⟨.agg ⟨(cs'.drop off).take n⟩, ?_, ?_⟩
          · simp only [part, Sem.run_bind, run_isAgg ha, Result.andThen_ok, run_sizeOf hz, if_true, Sem.run_pure]
            congr 2
            apply Array.ext'
            simp [List.extract_eq_take_drop]
          · rcases span_eq hs with ⟨rfl, _⟩ | ⟨rfl, rfl⟩
            · exact .agg ((hr.drop off).take n)
            · simp; exact .agg .nil
      | false =>
        simp only [ha, hz, nth_eq] at h
        obtain ⟨v', h1, h2⟩ := hr.get off h
        exact ⟨v', by simp [part, run_isAgg ha, h1], h2⟩

theorem HR.loadVar (h : HR P ρ A w) {t : TypeId} {a : Addr} {l : Loc} (hl : ρ a.block = some l) {vs : List Value} (hc : cellsAt A a = some vs) {v : Value} (hp : apart P t a.off vs = some v) :
    ∃ v', (loadVar t (l.at a)).run P w = .ok v' w ∧ VR ρ v v' := by
  unfold apart at hp
  cases ha : aggOf P t with
  | none => simp [ha] at hp
  | some b =>
    cases hz : sizeAt P t with
    | none => cases b <;> simp [ha, hz] at hp
    | some n =>
      cases b with
      | true =>
        simp only [ha, hz] at hp
        cases hs : span a.off n vs with
        | none => simp [hs] at hp
        | some s =>
          simp only [hs, Option.map_some, Option.some.injEq] at hp
          subst hp
          obtain ⟨s', h1, h2⟩ := h.loadCells hl hc hs
          exact ⟨.agg s'.toArray, by simp [Go.loadVar, run_isAgg ha, run_sizeOf hz, h1], .agg h2⟩
      | false =>
        simp only [ha, hz, nth_eq] at hp
        obtain ⟨v', h1, h2⟩ := h.cell hl hc hp
        exact ⟨v', by simp [Go.loadVar, run_isAgg ha, Loc.at, h1], h2⟩

/-- Values stored into a row of cells. -/
theorem run_storeCells' (b o : Nat) : ∀ (vs : List Value) (i : Nat) (w : World) (c : Array Value) (e : TypeId) (lo hi : Nat), w.heap[b]? = some (.cells c e (lo, hi)) →
    (∀ j, j < vs.length → o + i + j < c.size ∧ ¬ (lo ≤ o + i + j ∧ o + i + j < hi)) → vs.all AI.oneCell = true →
    ∃ w' c', (storeCells ⟨b, o, none⟩ vs i).run P w = .ok () w' ∧ w'.heap.size = w.heap.size ∧ w'.heap[b]? = some (.cells c' e (lo, hi)) ∧ c'.size = c.size ∧
      (∀ k, c'[k]? = if o + i ≤ k ∧ k < o + i + vs.length then vs[k - (o + i)]? else c[k]?) ∧ (∀ j, j ≠ b → w'.heap[j]? = w.heap[j]?) ∧ w'.os = w.os ∧ w'.output = w.output ∧ w'.tape = w.tape
  | [], i, w, c, e, lo, hi, hb, _, _ => ⟨w, c, rfl, rfl, hb, rfl, fun k => by simp; omega, fun _ _ => rfl, rfl, rfl, rfl⟩
  | v :: vs, i, w, c, e, lo, hi, hb, hr, h1 => by
    have hadd : (⟨b, o, none⟩ : Addr).add i = ⟨b, o + i, none⟩ := by unfold Addr.add; split <;> simp_all
    have h0 := hr 0 (by simp)
    simp only [Nat.add_zero] at h0
    simp only [List.all_cons, Bool.and_eq_true] at h1
    have hv : v.oneCell' = true := by have := h1.1; cases v <;> simp_all [AI.oneCell, Value.oneCell']
    have hcell : w.cell? ⟨b, o + i, none⟩ = some c[o + i] := by simp [World.cell?, hb, h0.1]
    have hfro : w.frozen? ⟨b, o + i, none⟩ = false := by
      simp only [World.frozen?, hb]; simp; omega
    have hblt : b < w.heap.size := (Array.getElem?_eq_some_iff.1 hb).1
    have hset : (w.setCell ⟨b, o + i, none⟩ v).heap[b]? = some (.cells (c.setIfInBounds (o + i) v) e (lo, hi)) := by
      simp only [World.setCell, Array.getElem?_modify, ↓reduceIte, hb, Option.map_some]; rfl
    obtain ⟨w', c', r1, r2, r3, r4, r5, r6, r7⟩ := run_storeCells' b o vs (i + 1) (w.setCell ⟨b, o + i, none⟩ v) (c.setIfInBounds (o + i) v) e lo hi hset
      (fun j hj => by have := hr (j + 1) (by simp; omega); rw [Array.size_setIfInBounds]; rwa [show o + (i + 1) + j = o + i + (j + 1) by omega]) h1.2
    refine ⟨w', c', ?_, by rw [r2]; simp, r3, by rw [r4]; simp, ?_, ?_, r7⟩
    · simp only [storeCells, Sem.run_bind, hadd, run_store P w _ v _ hv, hcell, hfro]
      exact r1
    · intro k
      rw [r5 k]
      by_cases hk : o + (i + 1) ≤ k ∧ k < o + (i + 1) + vs.length
      · rw [if_pos hk, if_pos (by simp; omega), show k - (o + i) = (k - (o + (i + 1))) + 1 by omega]; rfl
      · rw [if_neg hk]
        by_cases hk2 : k = o + i
        · subst hk2; rw [if_pos (by simp)]; simp [h0.1]
        · rw [if_neg (by simp; omega), Array.getElem?_setIfInBounds_ne (Ne.symm hk2)]
    · intro j hj
      rw [r6 j hj]
      simp only [World.setCell]
      rw [Array.getElem?_modify, if_neg (Ne.symm hj)]

/-- Values written over an abstract row, here and there. -/
theorem HR.write (h : HR P ρ A w) {a : Addr} {l : Loc} (hl : ρ a.block = some l) {vs vs' : List Value} (hv : VRs ρ vs vs') {A' : AHeap} (hw : awrite A a vs = some A') :
    ∃ w', (storeCells (l.at a) vs').run P w = .ok () w' ∧ HR P ρ A' w' ∧ Ext A.next ρ A w ρ A' w' := by
  unfold awrite at hw
  split at hw
  · cases hw
  · rename_i hs
    split at hw
    · rename_i cs e hg
      simp only [Bool.cond_eq_ite, Bool.and_eq_true] at hw
      split at hw
      · rename_i hb
        cases hw
        have hlen : a.off + vs.length ≤ cs.length := Nat.le_of_ble_eq_true hb.1
        have hlen' := hv.length
        obtain ⟨e', c, lo, hi, _, hg', hm, hr, hb2, hz2⟩ := h.row hl (vs := cs) (by simp [cellsAt, hs, hg])
        rw [hg] at hg'; cases hg'
        obtain ⟨w', c', r1, r2, r3, r4, r5, r6, r7⟩ := run_storeCells' (P := P) l.blk (l.sh + a.off) vs' 0 w c e lo hi hm
          (fun j hj => by have := hb2 (a.off + j) (.inl (by omega)); rwa [show l.sh + a.off + 0 + j = l.sh + (a.off + j) by omega]) (by rw [hv.oneCells]; exact hb.2)
        have hlt := AHeap.lt_of_get hg
        refine ⟨w', r1, h.turn hl (o := .cells (over vs a.off cs) e) (o' := .cells c' e (lo, hi)) (by rw [hg]; simp) ⟨rfl, AHeap.get_put_same A _ hlt, fun j hj => AHeap.get_put_ne A _ hlt (Ne.symm hj)⟩ ⟨r2, r3, r6⟩ r7 (.cells ?_ ?_ (by rw [over_length]; exact hz2))⟩
        · intro i v hi
          rw [over_get _ _ _ _ hlen] at hi
          rw [r5]
          by_cases hk : a.off ≤ i ∧ i < a.off + vs.length
          · rw [if_pos hk] at hi
            rw [if_pos (by omega), show l.sh + i - (l.sh + a.off + 0) = i - a.off by omega]
            exact hv.get _ hi
          · rw [if_neg hk] at hi
            rw [if_neg (by omega)]; exact hr i v hi
        · intro i hi
          rw [over_length] at hi
          rw [r4]; exact hb2 i hi
      · cases hw
    · cases hw

end
end Go.AI
