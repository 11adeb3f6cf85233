/- Proved: a step of the reading is the model's; under the conditions that its theorems name. -/
import Derived.Test.YtaadikldoljdaaaGreatAiOpsB
import Derived.OrdersIn
import Derived.RangeFuncIn
import Derived.RangeFuncCalls

/- Quicker readings of some operations. -/
namespace Go.AI

theorem wrap_lim (k : IntKind) (n : Nat) (h : n < lim k) : k.wrap (n : Int) = n := by
  cases k <;> simp only [lim] at h <;> simp only [IntKind.wrap, IntKind.bits, IntKind.signed] <;> simp <;> omega

theorem abin_int {P : Program} {op : BinOp} {t : TypeId} {x y : Operand} {k k' : IntKind} {m n : Int} : abin P op t x y (.int k m) (.int k' n) = pureFlat P (do eqGuard op t x y (.int k m) (.int k' n); binOp op t (.int k m) (.int k' n)) := by
  simp [abin, flat]

theorem eqGuard_int {op : BinOp} {t : TypeId} {x y : Operand} {k k' : IntKind} {m n : Int} : eqGuard op t x y (.int k m) (.int k' n) = pure () := by
  unfold eqGuard; cases op <;> rfl

theorem fbin_eq (P : Program) (op : BinOp) (t : TypeId) (x y : Operand) (a b : Value) {v : Value} (h : fbin P op t x y a b = some v) : abin P op t x y a b = some v := by
  unfold fbin at h
  split at h
  · rename_i k m k' n
    have hcmp : ∀ c, (op = .lss ∨ op = .leq ∨ op = .gtr ∨ op = .geq ∨ op = .eql ∨ op = .neq) → (bif k == k' then some (Value.bool c) else none) = some v → Op.intCmp op (m : Int) (n : Int) = pure (.bool c) → abin P op t x y (.int k (.ofNat m)) (.int k' (.ofNat n)) = some v := by
      intro c hop h1 h2
      cases hk : k == k' with
      | false => rw [hk] at h1; cases h1
      | true =>
        rw [hk] at h1
        cases h1
        have hk := eq_of_beq hk
        subst hk
        rw [abin_int, eqGuard_int]
        have : binOp op t (.int k (.ofNat m)) (.int k (.ofNat n)) = Op.intCmp op (m : Int) (n : Int) := by
          rcases hop with rfl | rfl | rfl | rfl | rfl | rfl <;> simp [binOp]
        rw [this, h2]
        rfl
    have hblt : ∀ a b : Nat, Nat.blt a b = decide (a < b) := fun a b => by rw [Bool.eq_iff_iff, blt_iff]; simp
    have hble : ∀ a b : Nat, Nat.ble a b = decide (a ≤ b) := fun a b => by rw [Bool.eq_iff_iff, ble_iff]; simp
    have hbeq : ∀ a b : Nat, Nat.beq a b = decide (a = b) := fun a b => by rw [Bool.eq_iff_iff, beq_iff]; simp
    have har : ∀ c : Nat, (op = .add ∨ op = .sub ∨ op = .mul) → k = k' → Op.intArith op k (m : Int) (n : Int) = pure (.int k c) → abin P op t x y (.int k (.ofNat m)) (.int k' (.ofNat n)) = some (.int k c) := by
      intro c hop hk h2
      subst hk
      rw [abin_int, eqGuard_int]
      have : binOp op t (.int k (.ofNat m)) (.int k (.ofNat n)) = Op.intArith op k (m : Int) (n : Int) := by
        rcases hop with rfl | rfl | rfl <;> simp [binOp]
      rw [this, h2]
      rfl
    split at h
    · cases hc : Nat.blt n 64 && Nat.blt n k.bits with
      | false => rw [hc] at h; exact h
      | true =>
        rw [hc] at h
        cases h
        simp only [Bool.and_eq_true, blt_iff] at hc
        rw [abin_int, eqGuard_int]
        have h0 : ¬ ((n : Int) < 0) := by omega
        have hmin : min n k.bits = n := by omega
        have hb : binOp .shr t (.int k (.ofNat m)) (.int k' (.ofNat n)) = pure (.int k (.ofNat (Nat.shiftRight m n))) := by
          have e0 : binOp .shr t (.int k (.ofNat m)) (.int k' (.ofNat n)) = Op.shift .shr k (m : Int) k' (n : Int) := by simp [binOp]
          rw [e0]
          unfold Op.shift
          rw [if_neg h0]
          simp only [Int.toNat_natCast, hmin]
          have e1 : ((m : Int).fdiv (2 ^ n)) = ((m / 2 ^ n : Nat) : Int) := by
            rw [Int.fdiv_eq_ediv_of_nonneg _ (by exact_mod_cast Nat.zero_le (2 ^ n))]
            simp
          rw [e1]
          have e2 : Nat.shiftRight m n = m / 2 ^ n := Nat.shiftRight_eq_div_pow m n
          rw [e2]; rfl
        rw [hb]
        rfl
    · exact hcmp _ (by simp) h (by simp [Op.intCmp, hblt])
    · exact hcmp _ (by simp) h (by simp [Op.intCmp, hble])
    · exact hcmp _ (by simp) h (by simp [Op.intCmp, hblt])
    · exact hcmp _ (by simp) h (by simp [Op.intCmp, hble])
    · exact hcmp _ (by simp) h (by simp only [Op.intCmp, hbeq]; congr 2; rw [Bool.eq_iff_iff]; simp; omega)
    · exact hcmp _ (by simp) h (by simp only [Op.intCmp, hbeq]; congr 2; rw [Bool.eq_iff_iff]; simp [bne]; omega)
    · cases hc : k == k' && Nat.blt (Nat.add m n) (lim k) with
      | false => rw [hc] at h; exact h
      | true =>
        rw [hc] at h
        cases h
        simp only [Bool.and_eq_true, blt_iff] at hc
        refine har _ (by simp) (eq_of_beq hc.1) ?_
        have := wrap_lim k (m + n) hc.2
        simp only [Op.intArith]
        rw [show ((m : Int) + (n : Int)) = ((m + n : Nat) : Int) by simp, this]; rfl
    · cases hc : k == k' && Nat.ble n m && Nat.blt m (lim k) with
      | false => rw [hc] at h; exact h
      | true =>
        rw [hc] at h
        cases h
        simp only [Bool.and_eq_true, blt_iff, ble_iff] at hc
        refine har _ (by simp) (eq_of_beq hc.1.1) ?_
        have := wrap_lim k (m - n) (by omega)
        simp only [Op.intArith]
        rw [show ((m : Int) - (n : Int)) = ((m - n : Nat) : Int) by omega, this]; rfl
    · cases hc : k == k' && Nat.blt (Nat.mul m n) (lim k) with
      | false => rw [hc] at h; exact h
      | true =>
        rw [hc] at h
        cases h
        simp only [Bool.and_eq_true, blt_iff] at hc
        refine har _ (by simp) (eq_of_beq hc.1) ?_
        have := wrap_lim k (m * n) hc.2
        simp only [Op.intArith]
        rw [show ((m : Int) * (n : Int)) = ((m * n : Nat) : Int) by simp, this]; rfl
    · exact h
  · exact h

theorem dropTo_some {α : Type} : ∀ (k : Nat) (l r : List α), dropTo k l = some r → k ≤ l.length ∧ r = l.drop k := by
  intro k
  induction k with
  | zero => intro l r h; have h' : some l = some r := h; cases h'; exact ⟨Nat.zero_le _, rfl⟩
  | succ k ih =>
    intro l r h
    cases l with
    | nil => cases h
    | cons a l =>
      have h' : dropTo k l = some r := h
      obtain ⟨h1, h2⟩ := ih l r h'
      exact ⟨by simp; omega, by simpa using h2⟩

theorem joinTo_eq {α : Type} (l m : List α) : joinTo l m = l ++ m := by
  induction l with
  | nil => rfl
  | cons a l ih => show a :: joinTo l m = _; rw [ih]; rfl

theorem overHead_eq {α : Type} : ∀ (vs l : List α), overHead vs l = over vs 0 l
  | [], [] => rfl
  | [], _ :: _ => rfl
  | _ :: _, [] => rfl
  | v :: vs, x :: l => by show v :: overHead vs l = v :: over vs 0 l; rw [overHead_eq]

theorem overAt_eq {α : Type} (vs : List α) : ∀ (i : Nat) (l : List α), overAt vs i l = over vs i l := by
  intro i
  induction i with
  | zero => intro l; exact overHead_eq vs l
  | succ i ih => intro l; cases l with
    | nil => rfl
    | cons x l => show x :: overAt vs i l = x :: over vs i l; rw [ih]

theorem fwrite_eq {A B : AHeap} {a : Addr} {vs : List Value} (h : fwrite A a vs = some B) : awrite A a vs = some B := by
  unfold fwrite at h
  unfold awrite
  split at h
  · cases h
  · split at h
    · rename_i cs e hg
      split at h
      · rename_i r hd
        obtain ⟨h1, -⟩ := dropTo_some _ _ _ hd
        have h2 : Nat.ble (a.off + vs.length) cs.length = true := Nat.ble_eq_true_of_le h1
        cases hall : vs.all oneCell with
        | false => rw [hall] at h; cases h
        | true =>
          rw [hall] at h
          simp only [cond_true, overAt_eq] at h
          simp only [h2, hall, Bool.and_self, cond_true]
          exact h
      · cases h
    · cases h

theorem fstore_eq {P : Program} {t : TypeId} {p v : Value} {A B : AHeap} (h : fstore P t p v A = some B) : astore P t p v A = some B := by
  unfold fstore at h
  unfold astore
  cases hs : sizeAt P t with
  | none => simp [hs] at h
  | some n =>
    simp only [hs] at h ⊢
    split at h
    · rename_i a
      cases hb : Nat.beq (cellsOf v).length n with
      | false => rw [hb] at h; cases h
      | true => rw [hb] at h; simp only [cond_true] at h ⊢; exact fwrite_eq h
    · cases h

theorem revTo_eq {α : Type} : ∀ (l acc : List α), revTo l acc = l.reverse ++ acc
  | [], acc => rfl
  | x :: l, acc => by rw [revTo, revTo_eq l, List.reverse_cons, List.append_assoc]; rfl

/-- Two heaps that read alike. -/
def HeapEq (A B : AHeap) : Prop := A.next = B.next ∧ ∀ i, A.get i = B.get i

theorem HeapEq.refl (A : AHeap) : HeapEq A A := ⟨rfl, fun _ => rfl⟩

theorem HR.heapEq {P : Program} {ρ : Emb} {A B : AHeap} {w : World} (h : HR P ρ A w) (e : HeapEq A B) : HR P ρ B w :=
  ⟨fun i l h1 => by rw [← e.1]; exact h.dom i l h1, fun i j l k h1 h2 h3 h4 h5 => h.inj i j l k h1 h2 (by rw [e.2]; exact h3) (by rw [e.2]; exact h4) h5, fun i l o h1 h2 => h.obj i l o h1 (by rw [e.2]; exact h2), fun i h1 => by rw [← e.2]; exact h.top i (by rw [e.1]; exact h1)⟩

theorem Own.heapEq {ρ : Emb} {A B : AHeap} (e : HeapEq A B) {b : Nat} : Own ρ B b → Own ρ A b := fun ⟨i, l, h1, h2, h3⟩ => ⟨i, l, h1, by rw [e.2]; exact h2, h3⟩

theorem Ext.heapEq {n : Nat} {ρ ρ' : Emb} {A B B' : AHeap} {w w' : World} (h : Ext n ρ A w ρ' B w') (e : HeapEq B B') : Ext n ρ A w ρ' B' w' :=
  { h with next := by rw [← e.1]; exact h.next, own := fun b hb ho => h.own b hb (Own.heapEq e ho) }

theorem pushRow_eq {A A' : AHeap} {rev : List Value} {n : Nat} {e : TypeId} {h : rev.length = n} {i : Nat} (hp : A.pushRow rev n e h = some (i, A')) :
    ∃ A2, A.push (.cells rev.reverse e) = some (i, A2) ∧ HeapEq A2 A' := by
  unfold AHeap.pushRow at hp
  unfold AHeap.push
  cases hb : Nat.ble hcap A.next with
  | true => rw [hb] at hp; cases hp
  | false =>
    rw [hb] at hp
    cases hp
    have hlt : A.next < hcap := by
      rcases Nat.lt_or_ge A.next hcap with h | h
      · exact h
      · rw [Nat.ble_eq_true_of_le h] at hb; cases hb
    refine ⟨_, rfl, rfl, fun j => ?_⟩
    rw [AHeap.get_eq, AHeap.get_eq]
    split
    · rfl
    · rename_i hj
      by_cases hji : A.next = j
      · subst hji
        show RObj.norm (Tr.get HD A.next (Tr.set HD A.next _ A.tab)) = RObj.norm (Tr.get HD A.next (Tr.set HD A.next _ A.tab))
        rw [Tr.get_set_same, Tr.get_set_same]
        simp [RObj.norm, revTo_eq]
      · show RObj.norm (Tr.get HD j (Tr.set HD A.next _ A.tab)) = RObj.norm (Tr.get HD j (Tr.set HD A.next _ A.tab))
        rw [Tr.get_set_ne _ _ _ _ _ (by simpa [HD, hcap] using hlt) (by simp [HD, hcap] at hj ⊢; omega) hji, Tr.get_set_ne _ _ _ _ _ (by simpa [HD, hcap] using hlt) (by simp [HD, hcap] at hj ⊢; omega) hji]

theorem raw_get {A : AHeap} {i : Nat} {rev : List Value} {n : Nat} {e : TypeId} {h : rev.length = n} (hr : A.raw i = some (.grown rev n e h)) : A.get i = some (.cells rev.reverse e) := by
  unfold AHeap.raw at hr
  unfold AHeap.get
  cases hb : Nat.ble hcap i with
  | true => rw [hb] at hr; cases hr
  | false =>
    rw [hb] at hr
    simp only [cond_false] at hr ⊢
    rw [hr]
    simp [RObj.norm, revTo_eq]

theorem fappendOf_eq {P : Program} {size bytes : Nat} {e : TypeId} (hse : sizeAt P e = some size) (hs0 : 0 < size) {base : Option Addr} {sLen sCap n : Nat} {new : List Value} {A : AHeap} {v : Value} {B : AHeap} (h : fappendOf P size bytes e base sLen sCap n new A = some (v, B)) :
    ∃ B', aappendOf P size bytes e base sLen sCap n new A = some (v, B') ∧ HeapEq B' B := by
  unfold fappendOf at h
  cases hb : Nat.blt sCap big with
  | true =>
    rw [hb] at h
    simp only [cond_true] at h
    cases hc : Nat.ble ((sLen + n) * bytes) (2 ^ 40) && Nat.ble (sLen + n) (2 ^ 40) with
    | false => rw [hc] at h; cases h
    | true =>
      rw [hc] at h
      simp only [cond_true] at h
      unfold aappendOf
      simp only [hc, hb, Bool.not_true, cond_false, cond_true]
      cases hf : Nat.ble (sLen + n) sCap with
      | true =>
        rw [hf] at h
        simp only [cond_true] at h ⊢
        cases base with
        | none => exact ⟨B, h, .refl _⟩
        | some a =>
          dsimp only at h ⊢
          split at h
          · rename_i B2 hw; rw [fwrite_eq hw]; exact ⟨B, h, .refl _⟩
          · cases h
      | false =>
        rw [hf] at h
        simp only [cond_false] at h ⊢
        cases ho : srcCells size sLen (.slice base sLen sCap) A with
        | none => rw [ho] at h; cases h
        | some old =>
          rw [ho] at h
          dsimp only at h ⊢
          split at h
          · rename_i i B2 hp
            cases h
            obtain ⟨A2, p1, p2⟩ := pushRow_eq hp
            have : (revTo new (revTo old [])).reverse = old ++ new := by simp [revTo_eq]
            rw [this] at p1
            rw [p1]
            exact ⟨A2, rfl, p2⟩
          · cases h
  | false =>
    rw [hb] at h
    simp only [cond_false] at h
    cases base with
    | none => cases h
    | some a =>
      dsimp only at h
      split at h
      · rename_i rev k e' hlen hraw
        simp only [Bool.cond_eq_ite] at h
        split at h
        · rename_i hc
          simp only [Bool.and_eq_true, beq_iff, ble_iff, blt_iff] at hc
          obtain ⟨⟨⟨⟨⟨⟨⟨c1, c2⟩, c3⟩, c4⟩, c5⟩, c6⟩, c7⟩, c8⟩ := hc
          subst c5
          have hget := raw_get hraw
          have hspot : a.spot = none := by simpa using c1
          have hrow : rowOf P size A a = some rev.reverse := by
            unfold rowOf
            rw [hspot]
            dsimp only
            rw [hget]
            dsimp only
            rw [hse]
            dsimp only
            rw [Nat.beq_refl, blt_iff.2 hs0]; rfl
          have hl : rev.reverse.length = sLen * size := by rw [List.length_reverse, hlen, c4]
          have hno : Nat.ble (a.off + (sLen + n) * size) rev.reverse.length = false := by
            rw [Bool.eq_false_iff, Ne, ble_iff, hl, c2, Nat.add_mul]
            have : 0 < n * size := Nat.mul_pos c3 hs0
            omega
          have hspan : span a.off (sLen * size) rev.reverse = some rev.reverse := by
            unfold span
            rw [c2, List.drop_zero, ← hl, List.take_length]
            show (bif Nat.beq rev.reverse.length rev.reverse.length then some rev.reverse else none) = some rev.reverse
            rw [Nat.beq_refl]; rfl
          have hneed : Nat.blt 0 (sLen + n) = true := blt_iff.2 (by omega)
          have helem : elemIs A a e' = true := by unfold elemIs; rw [hget]; exact Nat.beq_refl _
          split at h
          · rename_i i B2 hp
            cases h
            obtain ⟨A2, p1, p2⟩ := pushRow_eq hp
            have hrr : (revTo new rev).reverse = rev.reverse ++ new := by simp [revTo_eq]
            rw [hrr] at p1
            refine ⟨A2, ?_, p2⟩
            unfold aappendOf
            simp only [Nat.ble_eq_true_of_le c6, Nat.ble_eq_true_of_le c7, c8, hb, hrow, hno, hspan, hneed, helem, Bool.and_self, Bool.not_true, cond_false, cond_true]
            rw [p1]
          · cases h
        · exact ⟨B, h, .refl _⟩
      · exact ⟨B, h, .refl _⟩

theorem fappend_eq {P : Program} {t : TypeId} {z : Bool} {s x : Value} {A : AHeap} {v : Value} {B : AHeap} (h : fappend P t z s x A = some (v, B)) : ∃ B', aappend P t z s x A = some (v, B') ∧ HeapEq B' B := by
  unfold fappend at h
  unfold aappend
  cases hu : P.underlying t with
  | none => simp [hu] at h
  | some d =>
  rw [hu] at h
  cases d with
  | slice e =>
    dsimp only at h ⊢
    cases hi : P.info? e with
    | none => simp [hi] at h
    | some i =>
    cases hz : zeroOf P e with
    | none => simp [hi, hz] at h
    | some zz =>
    simp only [hi, hz] at h ⊢
    have hse : sizeAt P e = some i.size := by simp [sizeAt, hi]
    cases hc : Nat.beq (cellsOf zz).length i.size && Nat.blt 0 i.size && Nat.blt 0 i.bytes with
    | false => rw [hc] at h; cases h
    | true =>
      rw [hc] at h
      simp only [cond_true] at h ⊢
      simp only [Bool.and_eq_true, blt_iff] at hc
      cases s with
      | slice base sLen sCap =>
        dsimp only at h ⊢
        cases z with
        | true =>
          simp only [cond_true] at h ⊢
          split at h
          · rename_i n hn
            cases hb : Nat.ble n (2 ^ 40) with
            | false => rw [hb] at h; cases h
            | true => rw [hb] at h; simp only [cond_true] at h ⊢; exact fappendOf_eq hse hc.1.2 h
          · cases h
        | false =>
          simp only [cond_false] at h ⊢
          split at h
          · split at h
            · exact fappendOf_eq hse hc.1.2 h
            · cases h
          · cases h
      | _ => cases h
  | _ => cases h

section
variable {P : Program} {N : Nat}

theorem ReadsOK.of_le {op : Op} {ty : TypeId} {f g : Env → AHeap → AR} (hg : ReadsOK P N op ty g) (h : ∀ env A r, f env A = some r → g env A = some r) : ReadsOK P N op ty f :=
  fun env A v A' he => hg env A v A' (h _ _ _ he)
theorem ActsOK.of_le {op : Op} {ty : TypeId} {f g : Env → AHeap → AR} (hg : ActsOK P N op ty g) (h : ∀ env A r, f env A = some r → g env A = some r) : ActsOK P N op ty f :=
  fun env A v A' he => hg env A v A' (h _ _ _ he)

theorem with2_le {x y : Operand} {f g : Value → Value → AHeap → AR} (h : ∀ a b A r, f a b A = some r → g a b A = some r) : ∀ env A r, with2 N x y f env A = some r → with2 N x y g env A = some r := by
  intro env A r he
  obtain ⟨a, b, h1, h2, h3⟩ := with2_some he
  simp only [with2, h1, h2]
  exact h _ _ _ _ h3

theorem only_le {v v' : Option Value} {A : AHeap} {r : Value × AHeap} (hv : ∀ u, v = some u → v' = some u) (h : only v A = some r) : only v' A = some r := by
  obtain ⟨h1, h2⟩ := only_some h
  rw [hv _ h1, ← h2]; rfl

theorem undefR_le {v v' : Option AHeap} {r : Value × AHeap} (hv : ∀ u, v = some u → v' = some u) (h : undefR v = some r) : undefR v' = some r := by
  obtain ⟨r1, r2⟩ := r
  obtain ⟨h1, rfl⟩ := undefR_some h
  rw [hv _ h1]; rfl

theorem fbinOp_ok (op : BinOp) (t : TypeId) (x y : Operand) (yt ty : TypeId) : ReadsOK P N (.binOp op t x y yt) ty (with2 N x y fun a b A => only (fbin P op t x y a b) A) :=
  (binOp_ok op t x y yt ty).of_le (with2_le fun a b A r h => only_le (fun u hu => fbin_eq P op t x y a b hu) h)

theorem fstore_ok (t : TypeId) (a x : Operand) (ty : TypeId) : ActsOK P N (.store t a x) ty (with2 N a x fun p v A => undefR (fstore P t p v A)) :=
  (store_ok t a x ty).of_le (with2_le fun p v A r h => undefR_le (fun u hu => fstore_eq hu) h)

theorem fappend_ok (t : TypeId) (s x : Operand) (rest : List TypeId) (z : Bool) (hzo : zerosOf P rest = some z) (ty : TypeId) :
    ActsOK P N (.call { callee := .builtin .append, args := ⟨[s, x]⟩, argTypes := ⟨t :: rest⟩ }) ty (with2 N s x (fappend P t z)) := by
  intro env A v A' he ρ w act o hh e1 e2 hr
  obtain ⟨a, b, h1, h2, h3⟩ := with2_some he
  obtain ⟨B', q1, q2⟩ := fappend_eq h3
  obtain ⟨res, v', w', ρ', r1, r2, r3, r4, r5⟩ := append_ok t s x rest z hzo ty env A v B' (by simp only [with2, h1, h2]; exact q1) ρ w act o hh e1 e2 hr
  exact ⟨res, v', w', ρ', r1, r2, r3, r4.heapEq q2, r5.heapEq q2⟩

end

end Go.AI

/- What each operation does, part thirteen: all of them. -/
namespace Go.AI

section
variable {P : Program} {N : Nat}

def SortOK (P : Program) (N : Nat) (s : Sort4) (op : Op) (ty : TypeId) (f : Env → AHeap → AR) : Prop := match s with
  | .pure => ReadsOK P N op ty f ∧ PureOK f
  | .reads => ReadsOK P N op ty f
  | .lays => LaysOK P N op ty f
  | .acts => ActsOK P N op ty f

theorem minmax_pure (b : Builtin) (xs : List Operand) : PureOK (fun env A => match aevals N xs env with
      | some vs => bif flats vs then only (pureFlat P (if b = .min then Builtin.min_ #[] 0 ⟨vs⟩ else Builtin.max_ #[] 0 ⟨vs⟩)) A else none
      | none => none) := by
  intro env A v A' h B
  dsimp only at h ⊢
  cases hx : aevals N xs env with
  | none => simp [hx] at h
  | some vs =>
    simp only [hx] at h ⊢
    cases hf : flats vs with
    | false => simp [hf] at h
    | true =>
      simp only [hf, cond_true] at h ⊢
      obtain ⟨h1, -⟩ := only_some h
      rw [h1]; rfl

theorem aop_ok {op : Op} {ty : TypeId} {s : Sort4} {f : Env → AHeap → AR} (h : aop P N op ty = some (s, f)) : SortOK P N s op ty f := by
  unfold aop at h
  split at h
  · cases h; exact ⟨by apply move_reads, by apply move_pure⟩
  · cases h; exact ⟨by apply assign_reads, by apply move_pure⟩
  · cases h; exact ⟨by apply pick_reads, by apply pick_pure⟩
  · cases h; exact (by apply alloc_ok)
  · cases h; exact (by apply box_ok)
  · cases h; exact ⟨by apply build_ok, by apply build_pure⟩
  · cases h; exact (by apply buildSlice_ok)
  · cases h; exact (by apply load_ok)
  · cases h; exact (by apply fstore_ok)
  · cases h; exact ⟨by apply nilCheck_ok, by apply nilCheck_pure⟩
  · cases h; exact ⟨by apply fbinOp_ok, PureOK.with2⟩
  · cases h; exact ⟨by apply unOp_ok, flat1_pure _⟩
  · split at h
    · split at h
      · cases h; exact bytesStr_ok _ ‹_› ‹_› ‹_› _
      · cases h
    · split at h
      · cases h; exact strBytes_ok _ ‹_› ‹_› ‹_› _
      · cases h
    · cases h; exact ⟨by apply convert_ok, flat1_pure _⟩
  · split at h
    · cases h; exact ⟨toArr_ok _ _ _ ‹_› _ _, by apply toArr_pure⟩
    · cases h
  · simp only [Bool.cond_eq_ite] at h
    split at h
    · cases h
    · cases h; exact ⟨makeInterface_ok _ _ _ (Bool.eq_false_iff.2 ‹_›), PureOK.with1 (g := fun v => some (.iface _ v))⟩
  · split at h
    · cases h; exact ⟨by apply makeFunc_ok, by apply makeFunc_pure⟩
    · cases h
      refine ⟨fun env A v A' he => ?_, fun env A v A' he => ?_⟩ <;> cases he
  · cases h; exact (by apply makeMap_ok)
  · cases h; exact (by apply makeSlice_ok)
  · cases h; exact (by apply slice_ok)
  · cases h; exact ⟨by apply fieldAddr_ok, PureOK.with1⟩
  · cases h; exact ⟨by apply field_ok, PureOK.with1⟩
  · cases h; exact ⟨by apply indexAddr_ok, PureOK.with2⟩
  · cases h; exact ⟨by apply index_ok, PureOK.with2⟩
  · cases h; exact (by apply lookup_ok)
  · cases h; exact (by apply mapUpdate_ok)
  · cases h; exact (by apply insert_ok)
  · cases h; exact (by apply mapEntry_ok)
  · cases h; exact (by apply entryStore_ok)
  · split at h
    · cases h; exact range_ok _ _ ‹_› _
    · cases h; exact rangeMap_ok _ _ _ _ ‹_› _
    · cases h
  · cases h; exact (by apply entry_ok)
  · cases h; exact (by apply next_ok)
  · cases h; exact ⟨by apply typeAssert_ok, PureOK.with1⟩
  · cases h; exact ⟨by apply extract_ok, PureOK.with1⟩
  · rename_i b args ats
    obtain ⟨args⟩ := args
    obtain ⟨ats⟩ := ats
    dsimp only at h
    split at h
    · split at h
      · cases h; exact fappend_ok _ _ _ _ _ ‹_› _
      · cases h
    · cases h; exact (by apply copy_ok)
    · cases h; exact (by apply delete_ok)
    · cases h; exact (by apply clear_ok)
    · cases h; exact (by apply len_ok)
    · cases h; exact ⟨by apply cap_ok, PureOK.with1⟩
    · cases h; exact ⟨minmax_ok .min (.inl rfl) _ _ _, minmax_pure .min _⟩
    · cases h; exact ⟨minmax_ok .max (.inr rfl) _ _ _, minmax_pure .max _⟩
    · cases h
  · cases h

end
end Go.AI

/- Steps of a region whose order is fixed. -/
namespace Go.AI

/-- The fences here: everything is let in. -/
def W (r : Option Nat) : Fence := { Fence.wide with round := r }

theorem W_fn (r : Option Nat) (f : FuncId) : (W r).fn f := trivial

section
variable {P : Program} {N : Nat} {ρ : Emb} {A : AHeap} {w : World}

theorem dt_le {N : Nat} (h : N ≤ 256) : N ≤ 2 ^ dt N := by
  unfold dt
  cases h1 : Nat.ble N 16
  · cases h2 : Nat.ble N 64
    · simpa using h
    · simpa using Nat.le_of_ble_eq_true h2
  · simpa using Nat.le_of_ble_eq_true h1

theorem dt_le' {N t : Nat} (h : N ≤ 256) (ht : t < N) : t < 2 ^ dt N := Nat.lt_of_lt_of_le ht (dt_le h)

theorem lt_of_ble_false {a b : Nat} (h : Nat.ble a b = false) : b < a := by
  rcases Nat.lt_or_ge b a with h' | h'
  · exact h'
  · rw [Nat.ble_eq_true_of_le h'] at h; cases h

theorem env_same {env : Env} {t : Nat} (v : Value) : (env.set (dt N) t v).get (dt N) t = v := Tr.get_set_same ..
theorem env_ne {env : Env} {t s : Nat} (v : Value) (hN : N ≤ 256) (ht : t < N) (hs : s < N) (h : t ≠ s) : (env.set (dt N) t v).get (dt N) s = env.get (dt N) s :=
  Tr.get_set_ne _ _ _ _ _ (dt_le' hN ht) (dt_le' hN hs) h

theorem putDst_some {dst : Option Tmp} {v : Value} {env env' : Env} (h : putDst N dst v env = some env') : (dst = none ∧ env' = env) ∨ ∃ t, dst = some t ∧ t < N ∧ env' = env.set (dt N) t v := by
  unfold putDst at h
  split at h
  · cases h; exact .inl ⟨rfl, rfl⟩
  · rename_i t
    cases hb : Nat.ble N t with
    | true => simp [hb] at h
    | false =>
      simp only [hb, cond_false, Option.some.injEq] at h
      exact .inr ⟨t, rfl, lt_of_ble_false hb, h.symm⟩

theorem ERel.put {env env' : Env} {a : Act} {dst : Option Tmp} {v v' : Value} (h : ERel ρ N env a.tmps) (hv : VR ρ v v') (hp : putDst N dst v env = some env') : ERel ρ N env' (a.put dst v').tmps := by
  obtain ⟨h1, h2, h3⟩ := h
  rcases putDst_some hp with ⟨rfl, rfl⟩ | ⟨t, rfl, ht, rfl⟩
  · exact ⟨h1, h2, h3⟩
  · refine ⟨h1, by simpa [Act.put] using h2, fun s hs => ?_⟩
    by_cases e : t = s
    · subst e; exact ⟨v', by simp [Act.put, h2, ht], by rw [env_same]; exact hv⟩
    · obtain ⟨u, q1, q2⟩ := h3 s hs
      exact ⟨u, by simp only [Act.put]; rw [Array.getElem?_setIfInBounds_ne e]; exact q1, by rw [env_ne v h1 ht hs e]; exact q2⟩

theorem put_defers (a : Act) (dst : Option Tmp) (v : Value) : (a.put dst v).defers = a.defers := by cases dst <;> rfl

theorem aeval_rel {x : Operand} {env : Env} {v : Value} {a : Act} (h : aeval N x env = some v) (ht : ∀ t, x = .tmp t → t < N → VR ρ (env.get (dt N) t) (a.eval (.tmp t))) : VR ρ v (a.eval x) := by
  cases x with
  | tmp t =>
    simp only [aeval] at h
    cases hb : Nat.ble N t with
    | true => simp [hb] at h
    | false =>
      simp only [hb, cond_false, Option.some.injEq] at h
      subst h
      exact ht t rfl (lt_of_ble_false hb)
  | const u =>
    simp only [aeval] at h
    cases hf : flat u with
    | true => simp only [hf, cond_true, Option.some.injEq] at h; subst h; exact .of_flat hf
    | false => simp [hf] at h
  | global g => simp [aeval] at h
  | func f => simp only [aeval, Option.some.injEq] at h; subst h; exact .func (.func f) .nil .nil

theorem ERel.eval {env : Env} {a : Act} (h : ERel ρ N env a.tmps) {t : Nat} (ht : t < N) : VR ρ (env.get (dt N) t) (a.eval (.tmp t)) := by
  obtain ⟨v', q1, q2⟩ := h.2.2 t ht
  have : a.eval (.tmp t) = v' := by simp [Act.eval, Array.getD_eq_getD_getElem?, q1]
  rw [this]; exact q2

theorem ERel.opR {env : Env} {a : Act} (h : ERel ρ N env a.tmps) (xs : List Operand) : OpR ρ N env a xs := fun x _ v hv => aeval_rel hv fun _ _ ht => h.eval ht

/-- What an operation must do to go on. -/
def ActS (P : Program) (N : Nat) (r : Option Nat) (n : Nat) (c : Ctx) (o : Oper) (f : Ctx → Env → AHeap → AR) : Prop :=
  ∀ env A v A', f c env A = some (v, A') → ∀ (ρ : Emb) (w : World) (a : Act) (next : Act → World → Prop) (Q : Exit → Act → World → Prop), HR P ρ A w → OpR ρ N env a o.op.operands.toList →
    (∀ v' w' ρ', VR ρ' v v' → HR P ρ' A' w' → Ext A.next ρ A w ρ' A' w' → next (a.put o.dst v') w') → o.wpIn (W r) n P a w next Q

theorem aop_noDefer {op : Op} {ty : TypeId} {x : Sort4 × (Env → AHeap → AR)} (h : aop P N op ty = some x) (c : Call) : op ≠ .defer c := by
  rintro rfl; simp [aop] at h

theorem ActsOK.actS {r : Option Nat} {n : Nat} {c : Ctx} {o : Oper} {f : Env → AHeap → AR} (h : ActsOK P N o.op o.type f) (hd : ∀ c, o.op ≠ .defer c) : ActS P N r n c o (fun _ => f) := by
  intro env A v A' he ρ w a next Q hh hr hk
  obtain ⟨res, v', w', ρ', r1, r2, r3, r4, r5⟩ := h env A v A' he ρ w a o hh rfl rfl hr
  refine ⟨fun _ _ => trivial, ?_⟩
  rw [Oper.semAt_eq _ _ _ hd, r1]
  rcases r2 with rfl | ⟨rfl, rfl⟩
  · exact hk v' w' ρ' r3 r4 r5
  · exact hk _ w' ρ' r3 r4 r5

theorem SortOK.acts {s : Sort4} {op : Op} {ty : TypeId} {f : Env → AHeap → AR} (h : SortOK P N s op ty f) : ActsOK P N op ty f := by
  cases s with
  | pure => exact h.1.acts
  | reads => exact ReadsOK.acts h
  | lays => exact LaysOK.acts h
  | acts => exact h

/-! ### Calls -/

/-- How a call ends. -/
def GoodV (P : Program) (ρ : Emb) (A : AHeap) (w : World) (v : Value) (A' : AHeap) (v' : Value) (w' : World) : Prop :=
  ∃ ρ', VR ρ' v v' ∧ HR P ρ' A' w' ∧ Ext A.next ρ A w ρ' A' w'

def Good (P : Program) (ρ : Emb) (A : AHeap) (w : World) (v : Value) (A' : AHeap) (e : Ending) (w' : World) : Prop :=
  ∃ v', e = .returned v' ∧ GoodV P ρ A w v A' v' w'

def CallOK (P : Program) (ρ : Emb) (A : AHeap) (w : World) (f : FuncId) (args' : List Value) (v : Value) (A' : AHeap) : Prop :=
  (∀ w', (callFunc f ⟨args'⟩).run P w' = .ok (.enter f ⟨args'⟩) w') ∧ Calls P f ⟨args'⟩ w (Good P ρ A w v A') ∨
  hasBody P f = false ∧ ∃ v' w', (callFunc f ⟨args'⟩).run P w = .ok (.value v') w' ∧ GoodV P ρ A w v A' v' w'

/-- What the functions and the rounds of a context do. -/
structure CtxOK (P : Program) (c : Ctx) : Prop where
  call : ∀ f args A v A', c.call f args A = some (v, A') → ∀ (ρ : Emb) (w : World) (args' : List Value), HR P ρ A w → VRs ρ args args' → CallOK P ρ A w f args' v A'
  round : ∀ l args A v A', c.round l args A = some (v, A') → ∀ (ρ : Emb) (w : World) (k : Loc) (args' : List Value), HR P ρ A w → ρ l = some k → VRs ρ args args' →
    ∃ (g : FuncId) (tmps : Array Value) (assign body : Code), (Instr.yield k.blk ⟨args'⟩).run P w = .ok (.round k.blk g tmps assign body) w ∧ ∀ n r, RoundIn (W r) n P k.blk g tmps assign body w (Good P ρ A w v A')

theorem callsIn_W {r : Option Nat} {n : Nat} {f : FuncId} {args : Array Value} {R : Ending → World → Prop} (h : Calls P f args w R) : CallsIn (W r) n P f args w R := by
  have := (callsIn_wide (n := n)).2 h
  exact this

theorem acallOp_acts {r : Option Nat} {n : Nat} {c : Ctx} (hc : CtxOK P c) {o : Oper} {x : Operand} {args : Array Operand} {ats : Array TypeId} (ho : o.op = .call { callee := .value x, args, argTypes := ats }) :
    ActS P N r n c o (acallOp N x args.toList) := by
  intro env A v A' he ρ w a next Q hh hr hk
  refine ⟨fun _ _ => trivial, ?_⟩
  rw [Oper.semAt_eq _ _ _ (by intro d; rw [ho]; simp)]
  unfold acallOp at he
  split at he
  · rename_i f hf
    split at he
    · rename_i vs hvs
      have rf := hr x (by simp [ho, Op.operands, Call.operands]) _ hf
      have rvs := aevals_some hvs (ρ := ρ) (act := a) fun y hy => hr y (by simp [ho, Op.operands, Call.operands]; exact .inr (by simpa using hy))
      have eargs : args.map a.eval = ⟨args.toList.map a.eval⟩ := by apply Array.ext'; simp
      unfold acallVal at he
      generalize hfv : a.eval x = f' at rf
      split at he
      · -- a function
        rename_i g first captured
        cases rf with
        | @func _ fn' f1 f2 c1 c2 hfn hf1 hc1 =>
        cases hfn
        have := hc.call _ _ _ _ _ he ρ w (f2 ++ args.toList.map a.eval ++ c2) hh ((hf1.append rvs).append hc1)
        have hrun : (execOp a.eval o).run P w = (callFunc g ⟨f2 ++ args.toList.map a.eval ++ c2⟩).run P w := by
          simp [execOp, ho, resolve, hfv, eargs, Deferred.ofValue, invoke]
        rw [hrun]
        rcases this with ⟨h1, h2⟩ | ⟨-, v', w', h1, h2⟩
        · rw [h1]
          refine ⟨fun h => by simp [W, Fence.wide] at h, CallsIn.mono (callsIn_W h2) ?_⟩
          rintro e w' ⟨v', rfl, ρ', q1, q2, q3⟩
          exact hk v' w' ρ' q1 q2 q3
        · rw [h1]
          obtain ⟨ρ', q1, q2, q3⟩ := h2
          exact hk v' w' ρ' q1 q2 q3
      · rename_i l first captured
        cases rf with
        | @func _ fn' f1 f2 c1 c2 hfn hf1 hc1 =>
        cases hfn with
        | @yield _ k hl =>
        obtain ⟨g, tmps, assign, body, h1, h2⟩ := hc.round _ _ _ _ _ he ρ w k (f2 ++ args.toList.map a.eval) hh hl (hf1.append rvs)
        have hrun : (execOp a.eval o).run P w = (Instr.yield k.blk ⟨f2 ++ args.toList.map a.eval⟩).run P w := by
          simp [execOp, ho, resolve, hfv, eargs, Deferred.ofValue, invoke]
        rw [hrun, h1]
        refine ⟨fun h => by simp [W, Fence.wide] at h, RoundIn.mono (h2 _ _) ?_⟩
        rintro e w' ⟨v', rfl, ρ', q1, q2, q3⟩
        exact hk v' w' ρ' q1 q2 q3
      · cases he
    · cases he
  · cases he

theorem aoper_acts {r : Option Nat} {n : Nat} {c : Ctx} (hc : CtxOK P c) {o : Oper} {s : Sort4} {f : Ctx → Env → AHeap → AR} (h : aoper P N o = some (s, f)) : ActS P N r n c o f := by
  unfold aoper at h
  generalize hop : o.op = op at h
  split at h
  · cases h
    exact acallOp_acts hc hop
  · subst hop
    split at h
    · rename_i s' f' hf
      cases h
      exact (aop_ok hf).acts.actS (aop_noDefer hf)
    · cases h

/-! ### What is wanted -/

def boolOf : Value → Option Bool
  | .bool b => some b
  | _ => none

theorem wanted_iff {ops : Array Oper} {o : Oper} {g : Env → Bool} (hg : aguard N ops.toList o = some g) {env : Env} {a : Act}
    (ht : ∀ j want p t, o.guard = some (j, want) → ops[j]? = some p → p.dst = some t → t < N → ∃ v', a.tmps[t]? = some v' ∧ VR ρ (env.get (dt N) t) v') :
    Region.wanted o (yielded ops a.tmps) = g env := by
  unfold aguard at hg
  unfold Region.wanted
  split at hg
  · rename_i h; cases hg; simp [h]
  · rename_i j want h
    rw [nth_eq] at hg
    split at hg
    · rename_i p hp
      split at hg
      · rename_i t hd
        cases hb : Nat.ble N t with
        | true => simp [hb] at hg
        | false =>
          simp only [hb, cond_false, Option.some.injEq] at hg
          subst hg
          have hp' : ops[j]? = some p := by simpa using hp
          obtain ⟨v', q1, q2⟩ := ht j want p t h hp' hd (lt_of_ble_false hb)
          have hy : yielded ops a.tmps j = boolOf v' := by
            unfold yielded; simp only [hp', Option.bind_some, hd]; rw [q1]; cases v' <;> rfl
          rw [h]
          dsimp only
          rw [hy]
          clear hy q1
          generalize env.get (dt N) t = u at q2
          cases q2 <;> first | rfl | (rename_i b; cases b <;> cases want <;> rfl)
      · cases hg
    · cases hg

/-- A step of the interpreter, and of the region. -/
theorem astep_ok {r : Option Nat} {n : Nat} {c : Ctx} (hc : CtxOK P c) {ops : Array Oper} {i : Nat} {o : Oper} (ho : ops[i]? = some o) {f : Step} (hf : astep P N ops.toList o = some f)
    {env env' : Env} {A' : AHeap} (hs : f c env A = some (env', A')) {a : Act} (hh : HR P ρ A w) (he : ERel ρ N env a.tmps) {K : Act → World → Prop} {Q : Exit → Act → World → Prop}
    (hk : ∀ a' w' ρ', ERel ρ' N env' a'.tmps → a'.defers = a.defers → HR P ρ' A' w' → Ext A.next ρ A w ρ' A' w' → K a' w') : wpOpIn (W r) n P ops Q i K a w := by
  unfold astep at hf
  split at hf
  · rename_i g s f0 hg hf0
    cases hf
    have hw : Region.wanted o (yielded ops a.tmps) = g env := wanted_iff hg fun j want p t _ _ _ ht => he.2.2 t ht
    unfold aguarded at hs
    unfold wpOpIn
    simp only [ho, hw]
    cases hge : g env with
    | true =>
      simp only [hge, cond_true] at hs
      split at hs
      · rename_i v B hrun
        split at hs
        · rename_i env2 hput
          cases hs
          simp only [if_true]
          refine aoper_acts hc hf0 env A v _ hrun ρ w a K Q hh (he.opR _) fun v' w' ρ' q1 q2 q3 => ?_
          exact hk _ _ ρ' ((he.mono q3.sub).put q1 hput) (put_defers ..) q2 q3
        · cases hs
      · cases hs
    | false =>
      simp only [hge, cond_false] at hs
      split at hs
      · rename_i env2 hput
        cases hs
        simp only [Bool.false_eq_true, if_false]
        exact ⟨fun _ _ => trivial, hk _ _ ρ (he.put (undef_rel ρ) hput) (put_defers ..) hh (.refl _ _ _ _)⟩
      · cases hs
  · cases hf

/-- A region whose order is fixed. -/
theorem aseq_ok {r : Option Nat} {n : Nat} {c : Ctx} (hc : CtxOK P c) {ops : Array Oper} {Q : Exit → Act → World → Prop} : ∀ (l : List Oper) (i : Nat), ops.toList.drop i = l → ∀ (env env' : Env) (A A' : AHeap) (ρ : Emb) (w : World) (a : Act),
    aseq P N ops.toList l c env A = some (env', A') → HR P ρ A w → ERel ρ N env a.tmps →
    (∀ a' w' ρ', ERel ρ' N env' a'.tmps → a'.defers = a.defers → HR P ρ' A' w' → Ext A.next ρ A w ρ' A' w' → Q .normal a' w') → wpOpsIn (W r) n P ops Q ((List.range' i (ops.size - i))) a w
  | [], i, hl, env, env', A, A', ρ, w, a, hs, hh, he, hk => by
    simp only [aseq, Option.some.injEq, Prod.mk.injEq] at hs
    obtain ⟨rfl, rfl⟩ := hs
    have : ops.size - i = 0 := by
      have := List.drop_eq_nil_iff.1 hl
      simp at this; omega
    rw [this]
    simpa [wpOpsIn] using hk a w ρ he rfl hh (.refl _ _ _ _)
  | o :: rest, i, hl, env, env', A, A', ρ, w, a, hs, hh, he, hk => by
    have hi : ops[i]? = some o := by
      have := congrArg (·[0]?) hl
      simpa using this
    have hlt : i < ops.size := (Array.getElem?_eq_some_iff.1 hi).1
    have hrest : ops.toList.drop (i + 1) = rest := by rw [← List.tail_drop, hl]; rfl
    rw [show ops.size - i = (ops.size - (i + 1)) + 1 by omega, List.range'_succ]
    rw [wpOpsIn_cons]
    cases hf : astep P N ops.toList o with
    | none => simp [aseq, hf] at hs
    | some f =>
      simp only [aseq, hf] at hs
      cases hf1 : f c env A with
      | none => simp [hf1] at hs
      | some x =>
        obtain ⟨env1, A1⟩ := x
        simp only [hf1] at hs
        refine astep_ok hc hi hf hf1 hh he fun a1 w1 ρ1 q1 q2 q3 q4 => ?_
        refine aseq_ok hc rest (i + 1) hrest env1 env' A1 A' ρ1 w1 a1 hs q3 q1 fun a2 w2 ρ2 p1 p2 p3 p4 => ?_
        exact hk a2 w2 ρ2 p1 (p2.trans q2) p3 (q4.trans p4 q4.next)

end
end Go.AI
