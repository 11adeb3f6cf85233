/- Proved: code and calls of the reading are the model's; the oracles are asked to be right. -/
import Derived.Test.YtaadikldoljdaaaGreatAiDraw
import Derived.RangeFuncLeaves
import Derived.RangeFuncRecord
import Derived.LoopNIn
import Derived.Test.YtaadikldoljdaaaGreatAiDefs

/- Code. -/
namespace Go.AI

section
variable {P : Program} {N lo : Nat} {ρ : Emb} {A : AHeap} {w : World}

/-! ### Marks among the deferred calls -/

def Marks (lo : Nat) (ρ : Emb) (A : AHeap) (w : World) (ds : List Deferred) : Prop :=
  lo ≤ w.heap.size ∧ ∃ Ds : List Nat, ds = Ds.map (fun D => { target := .collected D, args := #[] }) ∧ Ds.Nodup ∧ ∀ D, D ∈ Ds → w.heap[D]? = some (.deferred (some [])) ∧ ¬ Own ρ A D ∧ lo ≤ D

theorem Marks.nil (h : lo ≤ w.heap.size) : Marks lo ρ A w [] := ⟨h, [], rfl, .nil, fun D h => by cases h⟩

theorem Marks.ext {ds : List Deferred} (h : Marks lo ρ A w ds) {n : Nat} {ρ' : Emb} {A' : AHeap} {w' : World} (e : Ext n ρ A w ρ' A' w') : Marks lo ρ' A' w' ds := by
  obtain ⟨h0, Ds, h1, h2, h3⟩ := h
  refine ⟨Nat.le_trans h0 e.size, Ds, h1, h2, fun D hD => ?_⟩
  obtain ⟨q1, q2, q3⟩ := h3 D hD
  have hlt := (Array.getElem?_eq_some_iff.1 q1).1
  exact ⟨by rw [e.kept D hlt q2]; exact q1, fun ho => q2 (e.own D hlt ho), q3⟩

/-- A block that nothing here speaks of. -/
theorem HR.allocOther (h : HR P ρ A w) (o : Obj) (n : Nat) : HR P ρ A (w.alloc o) ∧ Ext n ρ A w ρ A (w.alloc o) := by
  refine ⟨⟨fun i l e => ⟨(h.dom i l e).1, by have := (h.dom i l e).2; simp; omega⟩, h.inj, fun i l ob e hg => ?_, h.top⟩, ⟨.refl _, fun _ _ e => e, Nat.le_refl _, by simp, fun b hb _ => heap_old w o b hb, fun _ _ h => h, rfl, rfl, rfl⟩⟩
  obtain ⟨o', h1, h2⟩ := h.obj i l ob e hg
  exact ⟨o', by rw [heap_old w o _ (h.dom i l e).2]; exact h1, h2⟩

theorem HR.putOther (h : HR P ρ A w) {D : Nat} (hD : ¬ Own ρ A D) (o : Obj) : HR P ρ A (w.putObj D o) := by
  refine ⟨fun i l e => ⟨(h.dom i l e).1, by simpa using (h.dom i l e).2⟩, h.inj, fun i l ob e hg => ?_, h.top⟩
  obtain ⟨o', h1, h2⟩ := h.obj i l ob e hg
  refine ⟨o', ?_, h2⟩
  rw [World.putObj_heap_other fun e2 => hD ⟨i, l, e, by rw [hg]; simp, e2⟩]; exact h1

/-- A record of a loop is turned. -/
theorem HR.turnLoop (h : HR P ρ A w) {i : Nat} {l : Loc} (hl : ρ i = some l) {r : ALoop} (hg : A.get i = some (.loop r)) :
    ∃ R : Loop, w.heap[l.blk]? = some (.loop R) ∧ R.state = r.st ∧ R.pending = r.pending ∧ R.params = r.params ∧ R.assign = r.assign ∧ R.body = r.body ∧ ERel ρ (ntmpsOf P r.fn) r.env R.tmps ∧
      ∀ (st : LoopState) (pe : Option Code), HR P ρ (A.put i (some (.loop { r with st := st, pending := pe }))) (w.putObj l.blk (.loop { R with state := st, pending := pe })) ∧
        Ext A.next ρ A w ρ (A.put i (some (.loop { r with st := st, pending := pe }))) (w.putObj l.blk (.loop { R with state := st, pending := pe })) := by
  obtain ⟨o', h1, h2⟩ := h.obj i l _ hl hg
  cases h2 with
  | @loop _ tmps d g he =>
    refine ⟨_, h1, rfl, rfl, rfl, rfl, rfl, he, fun st pe => ?_⟩
    have hlt := AHeap.lt_of_get hg
    have hb := (Array.getElem?_eq_some_iff.1 h1).1
    exact h.turn hl (by rw [hg]; simp) ⟨rfl, AHeap.get_put_same A _ hlt, fun j hj => AHeap.get_put_ne A _ hlt (Ne.symm hj)⟩ ⟨by simp, World.putObj_heap_same hb, fun j hj => World.putObj_heap_other hj⟩ ⟨rfl, rfl, rfl⟩ (.loop (r := { r with st := st, pending := pe }) he)

/-! ### Code -/

def exitOf : AEx → Exit
  | .normal => .normal
  | .exit id => .exit id
  | .ret => .ret

def CodeOK (P : Program) (N lo : Nat) (r : Option Nat) (code : Code) (f : Env → AHeap → Res) : Prop :=
  ∀ env A ex env' A', f env A = some (ex, env', A') → ∀ (ρ : Emb) (w : World) (a : Act) (n : Nat) (Q : Exit → Act → World → Prop), HR P ρ A w → ERel ρ N env a.tmps → Marks lo ρ A w a.defers →
    (∀ a' w' ρ', ERel ρ' N env' a'.tmps → Marks lo ρ' A' w' a'.defers → HR P ρ' A' w' → Ext A.next ρ A w ρ' A' w' → Q (exitOf ex) a' w') → code.wpIn (W r) n P Q a w

theorem aloop_ok {r : Option Nat} {code : Code} {f : Env → AHeap → Res} (hf : CodeOK P N lo r code f) {n : Nat} {Q : Exit → Act → World → Prop} : ∀ (m : Nat) (env : Env) (A : AHeap) (ex : AEx) (env' : Env) (A' : AHeap), aloop f m env A = some (ex, env', A') →
    ∀ (ρ : Emb) (w : World) (a : Act), HR P ρ A w → ERel ρ N env a.tmps → Marks lo ρ A w a.defers →
    (∀ a' w' ρ', ERel ρ' N env' a'.tmps → Marks lo ρ' A' w' a'.defers → HR P ρ' A' w' → Ext A.next ρ A w ρ' A' w' → Q (exitOf ex) a' w') → Code.roundsIn (W r) n P code Q m a w := by
  intro m
  induction m with
  | zero => intro env A ex env' A' h; cases h
  | succ m ih =>
    intro env A ex env' A' h ρ w a hh he hm hQ
    have h' : (match f env A with | some (.normal, env, A) => aloop f m env A | r => r) = some (ex, env', A') := h
    rw [roundsIn_succ]
    cases hx : f env A with
    | none => rw [hx] at h'; cases h'
    | some y =>
      obtain ⟨ex1, env1, A1⟩ := y
      rw [hx] at h'
      refine hf env A ex1 env1 A1 hx ρ w a n _ hh he hm fun a1 w1 ρ1 q1 q2 q3 q4 => ?_
      cases ex1 with
      | normal =>
        exact ih env1 A1 ex env' A' h' ρ1 w1 a1 q3 q1 q2 fun a' w' ρ' p1 p2 p3 p4 => hQ a' w' ρ' p1 p2 p3 (q4.trans p4 q4.next)
      | exit id => dsimp only at h'; cases h'; exact hQ a1 w1 ρ1 q1 q2 q3 q4
      | ret => dsimp only at h'; cases h'; exact hQ a1 w1 ρ1 q1 q2 q3 q4

theorem acode_zero (code : Code) (c : Ctx) (env : Env) (A : AHeap) : acode P N 0 code c env A = none := rfl

set_option maxHeartbeats 1000000 in
/-- A loop over a function. -/
theorem rangeFunc_ok {c : Ctx} (hc : CtxOK P c) (hN : N = ntmpsOf P c.fn) {x : Operand} {ps : Array Tmp} {assign body : Code} (har : c.around.isNone = true) {f : FuncId} {first captured : Array Value} {env : Env} {A A1 A2 : AHeap} {l : Nat} {v : Value}
    (hx : aeval N x env = some (.func (.func f) first captured)) (hp : A.push (.loop { st := .ready, pending := none, fn := c.fn, env, params := ps, assign, body }) = some (l, A1)) (hbody : hasBody P f = true)
    (hcall : c.call f (first.toList ++ [.func (.yield l) #[] #[]] ++ captured.toList) A1 = some (v, A2)) {r : ALoop} (hget : A2.get l = some (.loop r)) (hst : r.st ≠ .busy)
    {ex : AEx} (hex : r.pending = none ∧ ex = .normal ∨ r.pending = some .ret ∧ ex = .ret ∨ ∃ id, r.pending = some (.exit id) ∧ ex = .exit id)
    {ρ : Emb} {w : World} {a : Act} {n : Nat} {Q : Exit → Act → World → Prop} (hh : HR P ρ A w) (he : ERel ρ N env a.tmps) (hm : Marks lo ρ A w a.defers)
    (hQ : ∀ a' w' ρ', ERel ρ' N env a'.tmps → Marks lo ρ' (A2.put l (some (.loop { r with st := .exhausted }))) w' a'.defers → HR P ρ' (A2.put l (some (.loop { r with st := .exhausted }))) w' →
      Ext A.next ρ A w ρ' (A2.put l (some (.loop { r with st := .exhausted }))) w' → Q (exitOf ex) a' w') : (Code.rangeFunc x ps assign body).wpIn (W none) n P Q a w := by
  refine wpIn_rangeFunc fun fn _ => ?_
  have rf := aeval_rel hx fun t _ ht => he.eval ht
  generalize hfv : a.eval x = f' at rf
  obtain ⟨first⟩ := first
  obtain ⟨captured⟩ := captured
  cases rf with
  | @func _ fn' _ f2 _ c2 hfn hf1 hc1 =>
  cases hfn
  -- two blocks
  obtain ⟨d1, d2⟩ := hh.allocOther (.deferred (some [])) A.next
  obtain ⟨D, hD⟩ : ∃ D, D = w.heap.size := ⟨_, rfl⟩
  obtain ⟨hnone, b1, b2⟩ := d1.push (l := ⟨(w.alloc (.deferred (some []))).heap.size, 0, 0, 0⟩) hp rfl
    (.loop (g := fn) (d := w.heap.size) (tmps := a.tmps) (by rw [← hN]; exact he))
  have hl0 := (AHeap.push_eq hp).1
  obtain ⟨W1, hW1⟩ : ∃ W1, W1 = (w.alloc (.deferred (some []))).alloc (.loop { state := .ready, pending := none, fn := fn, tmps := a.tmps, params := ps, assign := assign, body := body, defers := w.heap.size }) := ⟨_, rfl⟩
  rw [← hW1] at b1 b2
  obtain ⟨ρ1, hρ1⟩ : ∃ ρ1, ρ1 = ρ.with l ⟨(w.alloc (.deferred (some []))).heap.size, 0, 0, 0⟩ := ⟨_, rfl⟩
  rw [← hρ1] at b1 b2
  have hloc : ρ1 l = some ⟨w.heap.size + 1, 0, 0, 0⟩ := by rw [hρ1]; simp
  have hargs : VRs ρ1 (first ++ [.func (.yield l) #[] #[]] ++ captured) (f2 ++ [.func (.yield (w.heap.size + 1)) #[] #[]] ++ c2) :=
    ((hf1.mono b2.sub).append (.cons (.func (.yield hloc) .nil .nil) .nil)).append (hc1.mono b2.sub)
  have hexit : Ext A.next ρ A w ρ1 A1 W1 := d2.trans b2 (Nat.le_refl _)
  -- the new mark
  have hmarks : Marks lo ρ1 A1 W1 ({ target := .collected w.heap.size, args := #[] } :: a.defers) := by
    obtain ⟨m0, Ds, m1, m2, m3⟩ := hm
    refine ⟨Nat.le_trans m0 hexit.size, w.heap.size :: Ds, by rw [m1]; rfl, List.nodup_cons.2 ⟨fun hin => ?_, m2⟩, fun D' hD' => ?_⟩
    · have := (Array.getElem?_eq_some_iff.1 (m3 _ hin).1).1; omega
    · rcases List.mem_cons.1 hD' with rfl | hD'
      · refine ⟨?_, ?_, m0⟩
        · rw [hW1, heap_old _ _ _ (by simp)]; exact heap_new w _
        · rintro ⟨i, k, e1, e2, e3⟩
          by_cases hi : i = l
          · subst hi; rw [hloc] at e1; cases e1; simp at e3
          · rw [hρ1, Emb.with_ne hi] at e1; have := (hh.dom i k e1).2; omega
      · obtain ⟨q1, q2, q3⟩ := m3 D' hD'
        have hlt := (Array.getElem?_eq_some_iff.1 q1).1
        exact ⟨by rw [hexit.kept D' hlt q2]; exact q1, fun ho => q2 (hexit.own D' hlt ho), q3⟩
  have hcallOK := hc.call _ _ _ _ _ hcall ρ1 W1 _ b1 hargs
  rcases hcallOK with ⟨k1, k2⟩ | ⟨k1, -⟩
  case inr => rw [hbody] at k1; cases k1
  have g1 : (Instr.enterLoop fn a.tmps ps assign body none).run P w = .ok (w.heap.size + 1, [{ target := .collected w.heap.size, args := #[] }]) W1 := by
    rw [hW1]; exact run_enterLoop_outer fn a.tmps ps assign body
  have g2 : (resolve a.eval (rangeCall x (w.heap.size + 1)) 0).run P W1 = .ok { target := .fn (.func f) ⟨c2⟩, args := (⟨f2⟩ : Array Value) ++ #[.func (.yield (w.heap.size + 1)) #[] #[]] } W1 := by
    have e1 : a.eval (.const (.func (.yield (w.heap.size + 1)) #[] #[])) = .func (.yield (w.heap.size + 1)) #[] #[] := rfl
    simp [rangeCall, resolve, hfv, Deferred.ofValue, e1]
  have g3 : (invoke (.fn (.func f) ⟨c2⟩) ((⟨f2⟩ : Array Value) ++ #[.func (.yield (w.heap.size + 1)) #[] #[]])).run P W1 = .ok (.enter f ⟨f2 ++ [.func (.yield (w.heap.size + 1)) #[] #[]] ++ c2⟩) W1 := by
    have : ((⟨f2⟩ : Array Value) ++ #[.func (.yield (w.heap.size + 1)) #[] #[]]) ++ ⟨c2⟩ = ⟨f2 ++ [.func (.yield (w.heap.size + 1)) #[] #[]] ++ c2⟩ := by apply Array.ext'; simp
    simp only [invoke, this]
    exact k1 W1
  have g4 : ∀ n, ((W none).depth.isSome = true → 1 ≤ n) := fun n h => by simp [W, Fence.wide] at h
  refine ⟨_, _, W1, _, W1, f, _, W1, g1, g2, fun _ _ => trivial, g3, g4 _, CallsIn.mono (callsIn_W k2) ?_⟩
  · rintro e w3 ⟨v', rfl, ρ2, q1, q2, q3⟩
    have hl2 : ρ2 l = some ⟨w.heap.size + 1, 0, 0, 0⟩ := q3.sub _ _ hloc
    obtain ⟨R, r1, r2, r3, -, -, -, -, r4⟩ := q2.turnLoop hl2 hget
    obtain ⟨t1, t2⟩ := r4 .exhausted r.pending
    have hend := run_endLoop (P := P) r1 (by rw [r2]; exact hst)
    have hR : ({ R with state := .exhausted, pending := r.pending } : Loop) = { R with state := .exhausted } := by rw [← r3]
    rw [hR] at t1 t2
    have hn1 := b2.next
    have hn2 := q3.next
    have fin : Q (exitOf ex) { a with defers := [{ target := .collected w.heap.size, args := #[] }] ++ a.defers } (w3.putObj (w.heap.size + 1) (.loop { R with state := .exhausted })) := by
      refine hQ _ _ ρ2 ((he.mono hexit.sub).mono q3.sub) ((hmarks.ext q3).ext t2) t1 ?_
      exact (hexit.trans q3 hn1).trans t2 (Nat.le_trans hn1 hn2)
    obtain ⟨W4, hW4⟩ : ∃ W4, W4 = w3.putObj (w.heap.size + 1) (.loop { R with state := .exhausted }) := ⟨_, rfl⟩
    have hend' : (Instr.endLoop (w.heap.size + 1)).run P w3 = .ok r.pending W4 := by rw [hW4, ← r3]; exact hend
    rw [← hW4] at fin
    refine ⟨r.pending, W4, hend', ?_⟩
    rcases hex with ⟨e1, rfl⟩ | ⟨e1, rfl⟩ | ⟨id, e1, rfl⟩
    · rw [e1]; exact fin
    · rw [e1]; exact wpIn_ret fin
    · rw [e1]; exact wpIn_exit fin

theorem acode_ok (hmix : P.follows .mixedOrders = true) {c : Ctx} (hc : CtxOK P c) (hN : N = ntmpsOf P c.fn) {r : Option Nat} (hr : c.around.isNone = true → r = none) : ∀ (d : Nat) (code : Code), CodeOK P N lo r code (acode P N d code c) := by
  intro d
  induction d with
  | zero => intro code env A ex env' A' h; cases h
  | succ d ih =>
    intro code env A ex env' A' h ρ w a n Q hh he hm hQ
    cases code with
    | skip =>
      have h' : some (AEx.normal, env, A) = some (ex, env', A') := h
      cases h'; exact wpIn_skip (hQ a w ρ he hm hh (.refl _ _ _ _))
    | label l =>
      have h' : some (AEx.normal, env, A) = some (ex, env', A') := h
      cases h'; exact wpIn_label (hQ a w ρ he hm hh (.refl _ _ _ _))
    | exit id =>
      have h' : some (AEx.exit id, env, A) = some (ex, env', A') := h
      cases h'; exact wpIn_exit (hQ a w ρ he hm hh (.refl _ _ _ _))
    | ret =>
      have h' : some (AEx.ret, env, A) = some (ex, env', A') := h
      cases h'; exact wpIn_ret (hQ a w ρ he hm hh (.refl _ _ _ _))
    | region id ops draw =>
      cases draw with
      | false =>
        have h' : stepRes (aseq P N ops.toList ops.toList c env A) = some (ex, env', A') := h
        cases hs : aseq P N ops.toList ops.toList c env A with
        | none => rw [hs] at h'; cases h'
        | some y =>
          obtain ⟨env1, A1⟩ := y
          rw [hs] at h'
          cases h'
          refine wpIn_region ?_
          have := aseq_ok (r := r) (n := n) (Q := Q) hc ops.toList 0 rfl env _ A _ ρ w a hs hh he fun a' w' ρ' q1 q2 q3 q4 => hQ a' w' ρ' q1 (by rw [q2]; exact hm.ext q4) q3 q4
          rwa [Nat.sub_zero, ← List.range_eq_range'] at this
      | true =>
        have h' : stepRes (adraw P N ops.toList c env A) = some (ex, env', A') := h
        cases hs : adraw P N ops.toList c env A with
        | none => rw [hs] at h'; cases h'
        | some y =>
          obtain ⟨env1, A1⟩ := y
          rw [hs] at h'
          cases h'
          exact adraw_ok hmix hc hs hh he fun a' w' ρ' q1 q2 q3 q4 => hQ a' w' ρ' q1 (by rw [q2]; exact hm.ext q4) q3 q4
    | seq x y =>
      have h' : (match acode P N d x c env A with | some (.normal, env, A) => acode P N d y c env A | r => r) = some (ex, env', A') := h
      refine wpIn_seq ?_
      cases hx : acode P N d x c env A with
      | none => rw [hx] at h'; cases h'
      | some z =>
        obtain ⟨ex1, env1, A1⟩ := z
        rw [hx] at h'
        refine ih x env A ex1 env1 A1 hx ρ w a n _ hh he hm fun a1 w1 ρ1 q1 q2 q3 q4 => ?_
        cases ex1 with
        | normal => exact ih y env1 A1 ex env' A' h' ρ1 w1 a1 n Q q3 q1 q2 fun a' w' ρ' p1 p2 p3 p4 => hQ a' w' ρ' p1 p2 p3 (q4.trans p4 q4.next)
        | exit id => dsimp only at h'; cases h'; exact hQ a1 w1 ρ1 q1 q2 q3 q4
        | ret => dsimp only at h'; cases h'; exact hQ a1 w1 ρ1 q1 q2 q3 q4
    | cond x y z =>
      have h' : (match aeval N x env with | some (.bool t) => bif t then acode P N d y c env A else acode P N d z c env A | _ => none) = some (ex, env', A') := h
      split at h'
      · rename_i t ht
        have hb := aeval_rel ht fun s _ hs => he.eval hs
        have hbe : a.eval x = .bool t := by generalize a.eval x = u at hb; cases hb; rfl
        refine wpIn_cond hbe ?_
        cases t with
        | true => exact ih y env A ex env' A' h' ρ w a n Q hh he hm hQ
        | false => exact ih z env A ex env' A' h' ρ w a n Q hh he hm hQ
      · cases h'
    | block id x =>
      have h' : (match acode P N d x c env A with | some (.exit id', env, A) => bif Nat.beq id' id then some (AEx.normal, env, A) else some (.exit id', env, A) | r => r) = some (ex, env', A') := h
      refine wpIn_block ?_
      cases hx : acode P N d x c env A with
      | none => rw [hx] at h'; cases h'
      | some z =>
        obtain ⟨ex1, env1, A1⟩ := z
        rw [hx] at h'
        refine ih x env A ex1 env1 A1 hx ρ w a n _ hh he hm fun a1 w1 ρ1 q1 q2 q3 q4 => ?_
        cases ex1 with
        | normal => dsimp only at h'; cases h'; exact hQ a1 w1 ρ1 q1 q2 q3 q4
        | ret => dsimp only at h'; cases h'; exact hQ a1 w1 ρ1 q1 q2 q3 q4
        | exit id' =>
          dsimp only at h'
          simp only [exitOf, Exit.inBlock]
          cases hb : Nat.beq id' id with
          | true =>
            rw [hb] at h'; cases h'
            rw [if_pos (Nat.eq_of_beq_eq_true hb)]
            exact hQ a1 w1 ρ1 q1 q2 q3 q4
          | false =>
            rw [hb] at h'; cases h'
            rw [if_neg fun e => by rw [e, Nat.beq_refl] at hb; cases hb]
            exact hQ a1 w1 ρ1 q1 q2 q3 q4
    | loop x =>
      have h' : aloop (acode P N d x c) c.rounds env A = some (ex, env', A') := h
      exact wpIn_loop_rounds c.rounds (aloop_ok (ih x) _ env A ex env' A' h' ρ w a hh he hm hQ)
    | rangeFunc x ps assign body =>
      have h' : (match aeval N x env with
        | some (.func (.func f) first captured) => match A.push (.loop { st := .ready, pending := none, fn := c.fn, env, params := ps, assign, body }) with
            | none => none
            | some (l, A) => bif !(hasBody P f && c.around.isNone) then none else match c.call f (first.toList ++ [.func (.yield l) #[] #[]] ++ captured.toList) A with
              | none => none
              | some (_, A) => match A.get l with
                | some (.loop r) => match r.st with
                  | .busy => none
                  | _ => match r.pending with
                    | none => some (AEx.normal, env, A.put l (some (.loop { r with st := .exhausted })))
                    | some .ret => some (.ret, env, A.put l (some (.loop { r with st := .exhausted })))
                    | some (.exit id) => some (.exit id, env, A.put l (some (.loop { r with st := .exhausted })))
                    | some _ => none
                | _ => none
        | _ => none) = some (ex, env', A') := h
      clear h
      split at h'
      case h_2 => cases h'
      rename_i f first captured hx
      split at h'
      · cases h'
      rename_i l A1 hp
      cases hb : hasBody P f && c.around.isNone with
      | false => rw [hb] at h'; cases h'
      | true =>
      rw [hb] at h'
      simp only [Bool.not_true, cond_false] at h'
      simp only [Bool.and_eq_true] at hb
      split at h'
      · cases h'
      rename_i v A2 hcall
      split at h'
      case h_2 => cases h'
      rename_i rr hget
      have hrn := hr hb.2
      subst hrn
      have go : ∀ {ex : AEx}, rr.st ≠ .busy → (rr.pending = none ∧ ex = .normal ∨ rr.pending = some .ret ∧ ex = .ret ∨ ∃ id, rr.pending = some (.exit id) ∧ ex = .exit id) →
          (∀ a' w' ρ', ERel ρ' N env a'.tmps → Marks lo ρ' (A2.put l (some (.loop { rr with st := .exhausted }))) w' a'.defers → HR P ρ' (A2.put l (some (.loop { rr with st := .exhausted }))) w' →
            Ext A.next ρ A w ρ' (A2.put l (some (.loop { rr with st := .exhausted }))) w' → Q (exitOf ex) a' w') → (Code.rangeFunc x ps assign body).wpIn (W none) n P Q a w :=
        fun hst hex hq => rangeFunc_ok hc hN hb.2 hx hp hb.1 hcall hget hst hex hh he hm hq
      split at h'
      · cases h'
      · rename_i hst
        split at h'
        · rename_i hpe; cases h'; exact go hst (.inl ⟨hpe, rfl⟩) hQ
        · rename_i hpe; cases h'; exact go hst (.inr (.inl ⟨hpe, rfl⟩)) hQ
        · rename_i id hpe; cases h'; exact go hst (.inr (.inr ⟨id, hpe, rfl⟩)) hQ
        · cases h'
    | _ => cases h

end
end Go.AI

/- Calls. -/
namespace Go.AI

section
variable {P : Program} {N lo : Nat} {ρ : Emb} {A : AHeap} {w : World}

theorem envFrom_get (hN : N ≤ 256) : ∀ (vs : List Value) (i : Nat) (env : Env), i + vs.length ≤ N → ∀ t, t < N → (envFrom N i vs env).get (dt N) t = if i ≤ t ∧ t < i + vs.length then vs.getD (t - i) undef else env.get (dt N) t
  | [], i, env, h, t, ht => by rw [if_neg (by simp only [List.length_nil]; omega)]; rfl
  | v :: vs, i, env, h, t, ht => by
    simp only [List.length_cons] at h
    have ih := envFrom_get hN vs (i + 1) (env.set (dt N) i v) (by omega) t ht
    show (envFrom N (i + 1) vs (env.set (dt N) i v)).get (dt N) t = _
    rw [ih]
    by_cases h1 : t = i
    · subst h1
      rw [if_neg (by omega), if_pos (by simp), env_same]; simp
    · rw [env_ne v hN (by omega) ht (Ne.symm h1)]
      by_cases h2 : i + 1 ≤ t ∧ t < i + 1 + vs.length
      · rw [if_pos h2, if_pos (by simp; omega), show t - i = (t - (i + 1)) + 1 by omega]; simp
      · rw [if_neg h2, if_neg (by simp; omega)]

theorem envOf_rel (hN : N ≤ 256) {args args' : List Value} (hr : VRs ρ args args') (hl : args.length ≤ N) : ERel ρ N (envOf N args) ((⟨args'⟩ : Array Value) ++ Array.replicate (N - (⟨args'⟩ : Array Value).size) undef) := by
  have hlen := hr.length
  refine ⟨hN, by simp; omega, fun t ht => ?_⟩
  unfold envOf
  rw [envFrom_get hN args 0 _ (by omega) t ht]
  by_cases h : t < args.length
  · rw [if_pos (by omega)]
    have hv : args[t]? = some args[t] := List.getElem?_eq_getElem h
    obtain ⟨v', q1, q2⟩ := hr.get t hv
    refine ⟨v', ?_, ?_⟩
    · rw [Array.getElem?_append_left (by simp; omega)]; simpa using q1
    · simp only [Nat.sub_zero, List.getD, hv, Option.getD_some]; exact q2
  · rw [if_neg (by omega), Tr.get_leaf]
    refine ⟨undef, ?_, undef_rel ρ⟩
    rw [Array.getElem?_append_right (by simp; omega), Array.getElem?_replicate, if_pos]
    show t - args'.length < N - args'.length
    omega

theorem laidIn_rel (hN : N ≤ 256) : ∀ (ps : List Tmp) (vs vs' : List Value) (env env' : Env) (tmps : Array Value), laidIn N ps vs env = some env' → VRs ρ vs vs' → ERel ρ N env tmps →
    vs'.length = ps.length ∧ ERel ρ N env' ((ps.zip vs').foldl (fun t (p, a) => t.setIfInBounds p a) tmps)
  | [], vs, vs', env, env', tmps, h, hv, he => by
    cases vs with
    | nil => simp only [laidIn, Option.some.injEq] at h; subst h; cases hv; exact ⟨rfl, he⟩
    | cons v vs => simp [laidIn] at h
  | p :: ps, vs, vs', env, env', tmps, h, hv, he => by
    cases vs with
    | nil => simp [laidIn] at h
    | cons v vs =>
      simp only [laidIn] at h
      cases hb : Nat.ble N p with
      | true => rw [hb] at h; cases h
      | false =>
        rw [hb] at h
        simp only [cond_false] at h
        cases hv with
        | @cons _ v' _ l' hv hl =>
          have he2 : ERel ρ N (env.set (dt N) p v) (tmps.setIfInBounds p v') := by
            have := ERel.put (a := { tmps := tmps, defers := [] }) (dst := some p) (env' := env.set (dt N) p v) he hv (by simp [putDst, hb])
            exact this
          obtain ⟨q1, q2⟩ := laidIn_rel hN ps vs l' _ env' _ h hl he2
          exact ⟨by simp [q1], q2⟩

/-! ### What a function hands back -/

def resultOf (tmps : Array Value) : ResultVar → Sem Value
  | .tmp t => pure (tmps.getD t undef)
  | .cell a t => do loadVar t (← asAddr (tmps.getD a undef))

theorem aresult_run (hh : HR P ρ A w) {env : Env} {tmps : Array Value} (he : ERel ρ N env tmps) {r : ResultVar} {v : Value} (h : aresult P N env A r = some v) :
    ∃ v', (resultOf tmps r).run P w = .ok v' w ∧ VR ρ v v' := by
  cases r with
  | tmp t =>
    simp only [aresult] at h
    cases hb : Nat.ble N t with
    | true => rw [hb] at h; cases h
    | false =>
      rw [hb] at h; cases h
      exact ⟨_, rfl, he.eval (a := { tmps := tmps, defers := [] }) (lt_of_ble_false hb)⟩
  | cell a t =>
    simp only [aresult] at h
    cases hb : Nat.ble N a with
    | true => rw [hb] at h; cases h
    | false =>
      rw [hb] at h
      simp only [cond_false] at h
      have hr : VR ρ (env.get (dt N) a) (tmps.getD a undef) := he.eval (a := { tmps := tmps, defers := [] }) (lt_of_ble_false hb)
      unfold aload at h
      generalize env.get (dt N) a = u at h hr
      unfold resultOf
      dsimp only
      generalize tmps.getD a undef = u' at hr ⊢
      cases hr with
      | ptr hp => cases hp with
        | mk hs hl =>
          dsimp only at h
          split at h
          · obtain ⟨v', r1, r2⟩ := hh.loadVar (P := P) hl ‹_› h
            exact ⟨v', by simp [asAddr, r1], r2⟩
          · cases h
      | _ => simp at h

theorem aresults_run (hh : HR P ρ A w) {env : Env} {tmps : Array Value} (he : ERel ρ N env tmps) : ∀ (rs : List ResultVar) {vs : List Value}, aresults P N env A rs = some vs →
    ∃ vs', (rs.mapM (resultOf tmps)).run P w = .ok vs' w ∧ VRs ρ vs vs'
  | [], vs, h => by simp [aresults] at h; subst h; exact ⟨[], rfl, .nil⟩
  | r :: rs, vs, h => by
    simp only [aresults] at h
    cases h1 : aresult P N env A r with
    | none => rw [h1] at h; cases h
    | some v =>
      rw [h1] at h
      dsimp only at h
      cases h2 : aresults P N env A rs with
      | none => rw [h2] at h; cases h
      | some us =>
        rw [h2] at h
        cases h
        obtain ⟨v', r1, r2⟩ := aresult_run hh he h1
        obtain ⟨us', q1, q2⟩ := aresults_run hh he rs h2
        refine ⟨v' :: us', ?_, .cons r2 q2⟩
        simp only [List.mapM_cons, Sem.run_bind, r1, Result.andThen_ok, q1, Sem.run_pure]

theorem results_run (hh : HR P ρ A w) {fn : Func} {env : Env} {tmps : Array Value} (he : ERel ρ N env tmps) {vs : List Value} (h : aresults P N env A fn.results.toList = some vs) :
    ∃ v', (results fn tmps).run P w = .ok v' w ∧ VR ρ (packed vs) v' := by
  obtain ⟨vs', q1, q2⟩ := aresults_run hh he _ h
  have hlen := q2.length
  have hrun : (results fn tmps).run P w = .ok (if h : (⟨vs'⟩ : Array Value).size = 1 then (⟨vs'⟩ : Array Value)[0] else .tuple ⟨vs'⟩) w := by
    have e : results fn tmps = (do let vs ← fn.results.mapM (resultOf tmps); pure (if h : vs.size = 1 then vs[0] else .tuple vs)) := by
      unfold results
      congr 1
    rw [e, Sem.run_bind, Array.mapM_eq_mapM_toList, Sem.run_map, q1]
    rfl
  refine ⟨_, hrun, ?_⟩
  cases q2 with
  | nil => exact .tuple .nil
  | cons h1 h2 => cases h2 with
    | nil => exact h1
    | cons h3 h4 => exact .tuple (.cons h1 (.cons h3 h4))

/-- On the way out the marks are taken up. -/
theorem leaves_marks {fn : Func} {tmps : Array Value} {R : Ending → World → Prop} {A0 : AHeap} {ρ0 : Emb} {w0 : World} {env : Env} (he : ERel ρ N env tmps) {vs : List Value} (hres : aresults P N env A fn.results.toList = some vs) {n : Nat}
    (hR : ∀ v' w', VR ρ (packed vs) v' → HR P ρ A w' → Ext A0.next ρ0 A0 w0 ρ A w' → R (.returned v') w') : ∀ (Ds : List Nat) (w : World), HR P ρ A w → Ext A0.next ρ0 A0 w0 ρ A w → Ds.Nodup →
    (∀ D, D ∈ Ds → w.heap[D]? = some (.deferred (some [])) ∧ ¬ Own ρ A D ∧ w0.heap.size ≤ D) → LeavesInM (W none) n P fn tmps R (Ds.map fun D => { target := .collected D, args := #[] }) .returning w
  | [], w, hh, hx, _, _ => by
    obtain ⟨v', q1, q2⟩ := results_run hh he hres
    exact ⟨v', q1, hR v' w q2 hh hx⟩
  | D :: Ds, w, hh, hx, hn, hD => by
    obtain ⟨d1, d2, d3⟩ := hD D (by simp)
    refine ⟨by simp, .inl ⟨D, _, rfl, run_takeDeferred d1, ?_⟩⟩
    rw [List.nodup_cons] at hn
    refine leaves_marks he hres hR Ds _ (hh.putOther d2 _) ⟨hx.sub, hx.old, hx.next, by simpa using hx.size, fun b hb hno => ?_, hx.own, hx.os, hx.out, hx.tape⟩ hn.2 fun D' hD' => ?_
    · rw [World.putObj_heap_other (by omega)]; exact hx.kept b hb hno
    · obtain ⟨e1, e2, e3⟩ := hD D' (by simp [hD'])
      exact ⟨by rw [World.putObj_heap_other (w := w) (r := D) (k := D') (fun h => hn.1 (by rw [← h]; exact hD'))]; exact e1, e2, e3⟩

/-- No function here counts goroutines. -/
def namesOK (P : Program) : Bool := P.funcs.toList.all fun fn => fn.body.isNone || !(fn.name == "runtime.NumGoroutine")

def OrcOK (P : Program) (orc : Oracle) : Prop := ∀ f g, orc f = some g → ∀ args A v A', g args A = some (v, A') → ∀ (ρ : Emb) (w : World) (args' : List Value), HR P ρ A w → VRs ρ args args' → CallOK P ρ A w f args' v A'

theorem abody_ok (hmix : P.follows .mixedOrders = true) {f : FuncId} {fn : Func} {code : Code} (hf : P.funcs[f]? = some fn) (hb : fn.body = some code) {c : Ctx} (hc : CtxOK P c) (hcf : c.fn = f) (hca : c.around = none)
    {args : List Value} {v : Value} {A' : AHeap} (h : abody P fn code c args A = some (v, A')) (hh : HR P ρ A w) {args' : List Value} (hv : VRs ρ args args') : Calls P f ⟨args'⟩ w (Good P ρ A w v A') := by
  unfold abody at h
  cases hN : Nat.ble fn.ntmps 256 with
  | false => rw [hN] at h; cases h
  | true =>
  rw [hN] at h
  simp only [cond_true] at h
  have hN := Nat.le_of_ble_eq_true hN
  cases hl : Nat.ble args.length fn.ntmps with
  | false => rw [hl] at h; cases h
  | true =>
  rw [hl] at h
  simp only [cond_true] at h
  have hl := Nat.le_of_ble_eq_true hl
  cases hx : acode P fn.ntmps CD code c (envOf fn.ntmps args) A with
  | none => rw [hx] at h; cases h
  | some y =>
  obtain ⟨ex, env1, A1⟩ := y
  rw [hx] at h
  have hex : ex ≠ .exit 0 ∧ ∃ vs, aresults P fn.ntmps env1 A1 fn.results.toList = some vs ∧ v = packed vs ∧ A' = A1 ∧ (ex = .normal ∨ ex = .ret) := by
    cases ex with
    | exit id => dsimp only at h; cases h
    | normal =>
      dsimp only at h
      split at h
      · cases h; exact ⟨by simp, _, by assumption, rfl, rfl, .inl rfl⟩
      · cases h
    | ret =>
      dsimp only at h
      split at h
      · cases h; exact ⟨by simp, _, by assumption, rfl, rfl, .inr rfl⟩
      · cases h
  obtain ⟨-, vs, hvs, rfl, rfl, hex⟩ := hex
  have hNf : fn.ntmps = ntmpsOf P c.fn := by rw [hcf]; simp [ntmpsOf, hf]
  have key : CallsIn (W none) 0 P f ⟨args'⟩ w (Good P ρ A w (packed vs) A') := by
    refine callsIn_of_wp_marks hf hb trivial ?_ rfl
    refine acode_ok hmix hc hNf (r := none) (fun _ => rfl) CD code (envOf fn.ntmps args) A ex env1 A' hx ρ w _ 0 _ hh (envOf_rel hN hv hl) (Marks.nil (Nat.le_refl _)) fun a' w' ρ' q1 q2 q3 q4 => ?_
    obtain ⟨-, Ds, m1, m2, m3⟩ := q2
    have := leaves_marks (P := P) (fn := fn) (R := Good P ρ A w (packed vs) A') (n := 0) q1 hvs (fun v' w'' p1 p2 p3 => ⟨v', rfl, ρ', p1, p2, p3⟩) Ds w' q3 q4 m2 m3
    rw [← m1] at this
    rcases hex with rfl | rfl
    · exact this
    · exact this
  exact callsIn_wide.1 key

theorem enters_ok (hnames : namesOK P = true) {f : FuncId} {fn : Func} {code : Code} (hf : P.funcs[f]? = some fn) (hb : fn.body = some code) (args : Array Value) (w : World) : (callFunc f args).run P w = .ok (.enter f args) w := by
  have hmem : fn ∈ P.funcs.toList := by
    have : P.funcs.toList[f]? = some fn := by simpa using hf
    exact List.mem_of_getElem? this
  have h1 := List.all_eq_true.1 hnames fn hmem
  rw [hb] at h1
  simp only [Option.isNone_some, Bool.false_or, Bool.not_eq_true', beq_eq_false_iff_ne] at h1
  simp [callFunc, hf, h1, hb, mark]

theorem aenter_ok (hmix : P.follows .mixedOrders = true) (hnames : namesOK P = true) {orc : Oracle} (horc : OrcOK P orc) {f : FuncId} {ctx : FuncId → Ctx} (hctx : ∀ g, CtxOK P (ctx g) ∧ (ctx g).fn = g ∧ (ctx g).around = none)
    {args : List Value} {v : Value} {A' : AHeap} (h : aenter P orc f ctx args A = some (v, A')) (hh : HR P ρ A w) {args' : List Value} (hv : VRs ρ args args') : CallOK P ρ A w f args' v A' := by
  unfold aenter at h
  cases ho : orc f with
  | some g => rw [ho] at h; exact horc f g ho args A v A' h ρ w args' hh hv
  | none =>
    rw [ho] at h
    dsimp only at h
    cases hf : P.funcs[f]? with
    | none => rw [hf] at h; cases h
    | some fn =>
      rw [hf] at h
      dsimp only at h
      cases hb : fn.body with
      | none => rw [hb] at h; cases h
      | some code =>
        rw [hb] at h
        obtain ⟨c1, c2, c3⟩ := hctx f
        exact .inl ⟨enters_ok hnames hf hb _, abody_ok hmix hf hb c1 c2 c3 h hh hv⟩

/-- A round. -/
theorem around_ok (hmix : P.follows .mixedOrders = true) {l : Nat} {ctx : FuncId → Ctx} (hctx : ∀ g, CtxOK P (ctx g) ∧ (ctx g).fn = g ∧ (ctx g).around = some l) {args : List Value} {v : Value} {A' : AHeap} (h : around P ctx l args A = some (v, A')) (hh : HR P ρ A w)
    {k : Loc} (hl : ρ l = some k) {args' : List Value} (hv : VRs ρ args args') :
    ∃ (g : FuncId) (tmps : Array Value) (assign body : Code), (Instr.yield k.blk ⟨args'⟩).run P w = .ok (.round k.blk g tmps assign body) w ∧ ∀ n r, RoundIn (W r) n P k.blk g tmps assign body w (Good P ρ A w v A') := by
  unfold around at h
  split at h
  case h_2 => cases h
  rename_i r hg
  cases hf : P.funcs[r.fn]? with
  | none => rw [hf] at h; cases h
  | some fn =>
  rw [hf] at h
  dsimp only at h
  cases hN : Nat.ble fn.ntmps 256 with
  | false => rw [hN] at h; cases h
  | true =>
  rw [hN] at h
  simp only [Bool.not_true, cond_false] at h
  have hN := Nat.le_of_ble_eq_true hN
  have hNf : ∀ g, g = r.fn → fn.ntmps = ntmpsOf P g := fun g e => by rw [e]; simp [ntmpsOf, hf]
  cases hlaid : laidIn fn.ntmps r.params.toList args r.env with
  | none => rw [hlaid] at h; cases h
  | some env0 =>
  rw [hlaid] at h
  dsimp only at h
  split at h
  case h_2 => cases h
  rename_i env1 A1 hassign
  split at h
  case h_2 => cases h
  rename_i r1 hg1
  cases hst : r1.st == LoopState.ready with
  | false => rw [hst] at h; cases h
  | true =>
  rw [hst] at h
  simp only [cond_true] at h
  cases hbody : acode P fn.ntmps CD r.body (ctx r.fn) env1 (A1.put l (some (.loop { r1 with st := .busy }))) with
  | none => rw [hbody] at h; cases h
  | some y =>
  obtain ⟨ex, env2, A2⟩ := y
  rw [hbody] at h
  dsimp only at h
  split at h
  case h_2 => cases h
  rename_i r2 hg2
  obtain ⟨R, t1, -, -, t4, t5, t6, t7, -⟩ := hh.turnLoop hl hg
  rw [← hNf _ rfl] at t7
  obtain ⟨z1, z2⟩ := laidIn_rel hN _ _ args' _ _ _ hlaid hv t7
  have hzip : (R.params.zip ⟨args'⟩).foldl (fun tmps (t, a) => tmps.setIfInBounds t a) R.tmps = (r.params.toList.zip args').foldl (fun t (p, a) => t.setIfInBounds p a) R.tmps := by
    rw [t4, ← Array.foldl_toList, Array.toList_zip]
  refine ⟨R.fn, (R.params.zip ⟨args'⟩).foldl (fun tmps (t, a) => tmps.setIfInBounds t a) R.tmps, R.assign, R.body, run_yield t1 (by rw [t4]; simpa using z1), fun n ro => ?_⟩
  rw [hzip, t5, t6]
  obtain ⟨c1, c2, c3⟩ := hctx r.fn
  refine roundIn_of_wpIn trivial ?_
  have hno : (ctx r.fn).around.isNone = true → (some k.blk) = none := fun h => by rw [c3] at h; cases h
  refine acode_ok hmix c1 (hNf _ c2) (r := some k.blk) hno CD r.assign env0 A .normal env1 A1 hassign ρ w _ n _ hh z2 (Marks.nil (lo := 0) (Nat.zero_le _)) fun a1 w1 ρ1 q1 q2 q3 q4 => ?_
  obtain ⟨R1, u1, u2, u3, -, -, -, -, u8⟩ := q3.turnLoop (q4.sub _ _ hl) hg1
  obtain ⟨v1, v2⟩ := u8 .busy r1.pending
  have hst1 : R1.state = .ready := by rw [u2]; exact eq_of_beq hst
  have hbegin := run_beginRound (P := P) u1 hst1
  have hR1 : ({ R1 with state := .busy, pending := r1.pending } : Loop) = { R1 with state := .busy } := by rw [← u3]
  rw [hR1] at v1 v2
  refine ⟨_, hbegin, ?_⟩
  have hA1 : ({ r1 with st := LoopState.busy, pending := r1.pending } : ALoop) = { r1 with st := .busy } := rfl
  refine acode_ok hmix c1 (hNf _ c2) (r := some k.blk) hno CD r.body env1 _ ex env2 A2 hbody ρ1 _ a1 n _ v1 q1 (q2.ext v2) fun a2 w2 ρ2 p1 p2 p3 p4 => ?_
  obtain ⟨R2, s1, s2, s3, -, -, -, -, s8⟩ := p3.turnLoop (p4.sub _ _ (q4.sub _ _ hl)) hg2
  have n1 := q4.next
  have n2 := v2.next
  have n3 := p4.next
  have hext : Ext A.next ρ A w ρ2 A2 w2 := (q4.trans v2 n1).trans p4 (Nat.le_trans n1 n2)
  have hle : A.next ≤ A2.next := hext.next
  cases ex with
  | normal =>
    cases h
    obtain ⟨x1, x2⟩ := s8 .ready none
    exact ⟨_, _, run_endRound none s1, _, rfl, ρ2, .bool true, x1, hext.trans x2 hle⟩
  | ret =>
    cases h
    obtain ⟨x1, x2⟩ := s8 .done (some .ret)
    exact ⟨_, _, run_endRound (some .ret) s1, _, rfl, ρ2, .bool false, x1, hext.trans x2 hle⟩
  | exit id =>
    cases h
    obtain ⟨x1, x2⟩ := s8 .done (some (.exit id))
    exact ⟨_, _, run_endRound (some (.exit id)) s1, _, rfl, ρ2, .bool false, x1, hext.trans x2 hle⟩

/-- Calls, however deep. -/
theorem acalls_ok (hmix : P.follows .mixedOrders = true) (hnames : namesOK P = true) {orc : Oracle} (horc : OrcOK P orc) : ∀ (n : Nat) (rounds : Nat) (fn : FuncId) (ar : Option Nat),
    CtxOK P { call := (acalls P orc n).1, round := (acalls P orc n).2, rounds, fn, around := ar }
  | 0, _, _, _ => ⟨fun f args A v A' h => (by cases h), fun l args A v A' h => (by cases h)⟩
  | n + 1, _, _, _ => ⟨fun f args A v A' h ρ w args' hh hv => aenter_ok hmix hnames horc (ctx := fun fn => { call := (acalls P orc n).1, round := (acalls P orc n).2, rounds := 100000, fn, around := none }) (fun g => ⟨acalls_ok hmix hnames horc n _ _ _, rfl, rfl⟩) h hh hv,
      fun l args A v A' h ρ w k args' hh hl hv => around_ok hmix (ctx := fun fn => { call := (acalls P orc n).1, round := (acalls P orc n).2, rounds := 100000, fn, around := some l }) (fun g => ⟨acalls_ok hmix hnames horc n _ _ _, rfl, rfl⟩) h hh hl hv⟩

theorem acall_ok (hmix : P.follows .mixedOrders = true) (hnames : namesOK P = true) {orc : Oracle} (horc : OrcOK P orc) {n : Nat} {f : FuncId} {args : List Value} {v : Value} {A A' : AHeap} (h : acall P orc n f args A = some (v, A'))
    {ρ : Emb} {w : World} {args' : List Value} (hh : HR P ρ A w) (hv : VRs ρ args args') : CallOK P ρ A w f args' v A' :=
  (acalls_ok hmix hnames horc n 0 0 none).call f args A v A' h ρ w args' hh hv

end
end Go.AI

/- The same interpreter, laid so that what is known of the code is reckoned once. -/
namespace Go.AI

structure Cp (α : Type) where
  run : α

/-- The operations in their order. -/
def fseq (P : Program) (N : Nat) (ops : List Oper) : List Oper → Cp Step
  | [] => ⟨fun _ env A => some (env, A)⟩
  | o :: rest => match astep P N ops o with
    | none => ⟨fun _ _ _ => none⟩
    | some f => ⟨fun c env A => match f c env A with
      | some (env, A) => (fseq P N ops rest).run c env A
      | none => none⟩

theorem fseq_eq (P : Program) (N : Nat) (ops : List Oper) : ∀ l, (fseq P N ops l).run = aseq P N ops l
  | [] => rfl
  | o :: rest => by
    have ih := fseq_eq P N ops rest
    simp only [fseq, aseq]
    cases astep P N ops o with
    | none => rfl
    | some f =>
      simp only [ih]
      funext c env A
      cases f c env A with
      | none => rfl
      | some x => rfl

def fdraw (P : Program) (N : Nat) (ops : List Oper) : Cp Step :=
  match dops P N ops (befores ops) 0 ops with
  | none => ⟨fun _ _ _ => none⟩
  | some ds =>
    match stages ds (ds.filter DOp.acts) ((ds.filter DOp.acts).length + 1) with
    | [] => ⟨fun _ _ _ => none⟩
    | s0 :: rest =>
      bif edged ops && tidy ds && ordered (s0 ++ joined ((ds.filter DOp.acts).zip rest)) && eager none (s0 ++ joined ((ds.filter DOp.acts).zip rest)) && covers ops.length (s0 ++ joined ((ds.filter DOp.acts).zip rest)) then ⟨fun c env A => match druns c s0 env A with
        | none => none
        | some (rs, env, A) => dstages c ((ds.filter DOp.acts).zip rest) 0 rs env A⟩
      else ⟨fun _ _ _ => none⟩

theorem fdraw_eq (P : Program) (N : Nat) (ops : List Oper) : (fdraw P N ops).run = adraw P N ops := by
  unfold fdraw adraw
  cases dops P N ops (befores ops) 0 ops with
  | none => rfl
  | some ds =>
    dsimp only
    cases stages ds (ds.filter DOp.acts) ((ds.filter DOp.acts).length + 1) with
    | nil => rfl
    | cons s0 rest =>
      dsimp only
      cases edged ops && tidy ds && ordered (s0 ++ joined ((ds.filter DOp.acts).zip rest)) && eager none (s0 ++ joined ((ds.filter DOp.acts).zip rest)) && covers ops.length (s0 ++ joined ((ds.filter DOp.acts).zip rest)) <;> rfl

abbrev CRun := Ctx → Env → AHeap → Res

def fskip : Cp CRun := ⟨fun _ env A => some (.normal, env, A)⟩
def ffail : Cp CRun := ⟨fun _ _ _ => none⟩
def fregion (g : Cp Step) : Cp CRun := ⟨fun c env A => stepRes (g.run c env A)⟩
def fcons (f g : Cp CRun) : Cp CRun := ⟨fun c env A => match f.run c env A with
  | some (.normal, env, A) => g.run c env A
  | r => r⟩
def fcond (h : Env → Option Value) (f g : Cp CRun) : Cp CRun := ⟨fun c env A => match h env with
  | some (.bool t) => bif t then f.run c env A else g.run c env A
  | _ => none⟩
def fblock (id : Nat) (f : Cp CRun) : Cp CRun := ⟨fun c env A => match f.run c env A with
  | some (.exit id', env, A) => bif Nat.beq id' id then some (.normal, env, A) else some (.exit id', env, A)
  | r => r⟩
def floop (f : Cp CRun) : Cp CRun := ⟨fun c env A => aloop (f.run c) c.rounds env A⟩
def fexit (id : Nat) : Cp CRun := ⟨fun _ env A => some (.exit id, env, A)⟩
def fret : Cp CRun := ⟨fun _ env A => some (.ret, env, A)⟩
def frange (P : Program) (h : Env → Option Value) (ps : Array Tmp) (assign body : Code) : Cp CRun := ⟨fun c env A => match h env with
  | some (.func (.func f) first captured) => match A.push (.loop { st := .ready, pending := none, fn := c.fn, env, params := ps, assign, body }) with
      | none => none
      | some (l, A) => bif !(hasBody P f && c.around.isNone) then none else match c.call f (first.toList ++ [.func (.yield l) #[] #[]] ++ captured.toList) A with
        | none => none
        | some (_, A) => match A.get l with
          | some (.loop r) => match r.st with
            | .busy => none
            | _ => match r.pending with
              | none => some (.normal, env, A.put l (some (.loop { r with st := .exhausted })))
              | some .ret => some (.ret, env, A.put l (some (.loop { r with st := .exhausted })))
              | some (.exit id) => some (.exit id, env, A.put l (some (.loop { r with st := .exhausted })))
              | some _ => none
          | _ => none
  | _ => none⟩

def fcode (P : Program) (N : Nat) (d : Nat) : Code → Cp CRun :=
  Nat.rec (motive := fun _ => Code → Cp CRun)
    (fun _ => ffail)
    (fun _ ih code => match code with
      | .skip | .label _ => fskip
      | .region _ ops false => fregion (fseq P N ops.toList ops.toList)
      | .region _ ops true => fregion (fdraw P N ops.toList)
      | .seq a b => fcons (ih a) (ih b)
      | .cond x a b => fcond (aeval N x) (ih a) (ih b)
      | .block id a => fblock id (ih a)
      | .loop a => floop (ih a)
      | .exit id => fexit id
      | .ret => fret
      | .rangeFunc x ps assign body => frange P (aeval N x) ps assign body
      | _ => ffail) d

theorem fcode_eq (P : Program) (N : Nat) : ∀ (d : Nat) (code : Code), (fcode P N d code).run = acode P N d code := by
  intro d
  induction d with
  | zero => intro code; rfl
  | succ d ih =>
    intro code
    cases code with
    | seq a b =>
      show (fcons (fcode P N d a) (fcode P N d b)).run = _
      unfold fcons; rw [ih a, ih b]; rfl
    | cond x a b =>
      show (fcond (aeval N x) (fcode P N d a) (fcode P N d b)).run = _
      unfold fcond; rw [ih a, ih b]; rfl
    | block id a =>
      show (fblock id (fcode P N d a)).run = _
      unfold fblock; rw [ih a]; rfl
    | loop a =>
      show (floop (fcode P N d a)).run = _
      unfold floop; rw [ih a]; rfl
    | region id ops draw =>
      cases draw with
      | false =>
        show (fregion (fseq P N ops.toList ops.toList)).run = _
        unfold fregion; rw [fseq_eq]; rfl
      | true =>
        show (fregion (fdraw P N ops.toList)).run = _
        unfold fregion; rw [fdraw_eq]; rfl
    | _ => rfl

def fbody (P : Program) (fn : Func) (c : Code) : Cp (Ctx → List Value → AHeap → AR) :=
  bif Nat.ble fn.ntmps 256 then
    ⟨fun ctx args A => bif Nat.ble args.length fn.ntmps then (match (fcode P fn.ntmps CD c).run ctx (envOf fn.ntmps args) A with
    | some (.exit _, _, _) => none
    | some (_, env, A) => match aresults P fn.ntmps env A fn.results.toList with
      | some vs => some (packed vs, A)
      | none => none
    | none => none) else none⟩
  else ⟨fun _ _ _ => none⟩

theorem fbody_eq (P : Program) (fn : Func) (c : Code) : (fbody P fn c).run = abody P fn c := by
  unfold fbody abody
  dsimp only
  cases Nat.ble fn.ntmps 256 with
  | false => rfl
  | true =>
    simp only [cond_true, fcode_eq]
    rfl

def fenterC (P : Program) (f : FuncId) : Cp ((FuncId → Ctx) → List Value → AHeap → AR) := match P.funcs[f]? with
  | some fn => match fn.body with
    | some c => ⟨fun ctx args A => (fbody P fn c).run (ctx f) args A⟩
    | none => ⟨fun _ _ _ => none⟩
  | none => ⟨fun _ _ _ => none⟩

def fenter (P : Program) (orc : Oracle) (f : FuncId) : (FuncId → Ctx) → List Value → AHeap → AR :=
  match orc f with
  | some g => fun _ args A => g args A
  | none => fun ctx args A => (fenterC P f).run ctx args A

theorem fenter_eq (P : Program) (orc : Oracle) (f : FuncId) : fenter P orc f = aenter P orc f := by
  unfold fenter aenter fenterC
  cases orc f with
  | some g => rfl
  | none =>
    cases P.funcs[f]? with
    | none => rfl
    | some fn =>
      dsimp only
      cases fn.body with
      | none => rfl
      | some c => simp only [fbody_eq]

/-- A round of a loop over a function. -/
def fround (P : Program) (ctx : FuncId → Ctx) (l : Nat) (args : List Value) (A : AHeap) : AR :=
  match A.get l with
  | some (.loop r) => match P.funcs[r.fn]? with
    | none => none
    | some fn => bif !(Nat.ble fn.ntmps 256) then none else
      match laidIn fn.ntmps r.params.toList args r.env with
      | none => none
      | some env0 => match (fcode P fn.ntmps CD r.assign).run (ctx r.fn) env0 A with
        | some (.normal, env, A) => match A.get l with
          | some (.loop r1) => bif r1.st == .ready then
              (match (fcode P fn.ntmps CD r.body).run (ctx r.fn) env (A.put l (some (.loop { r1 with st := .busy }))) with
              | some (ex, _, A) => match A.get l with
                | some (.loop r2) =>
                  (match ex with
                  | .normal => some (.bool true, A.put l (some (.loop { r2 with st := .ready, pending := none })))
                  | .ret => some (.bool false, A.put l (some (.loop { r2 with st := .done, pending := some .ret })))
                  | .exit id => some (.bool false, A.put l (some (.loop { r2 with st := .done, pending := some (.exit id) }))))
                | _ => none
              | none => none) else none
          | _ => none
        | _ => none
  | _ => none

theorem fround_eq (P : Program) : fround P = around P := by
  funext ctx l args A
  unfold fround around
  simp only [fcode_eq]
  rfl

def fcalls (P : Program) (orc : Oracle) (n : Nat) : (FuncId → List Value → AHeap → AR) × (Nat → List Value → AHeap → AR) :=
  Nat.rec (motive := fun _ => (FuncId → List Value → AHeap → AR) × (Nat → List Value → AHeap → AR))
    (fun _ _ _ => none, fun _ _ _ => none)
    (fun _ ih => (fun f args A => fenter P orc f (fun fn => { call := ih.1, round := ih.2, rounds := 100000, fn, around := none }) args A,
      fun l args A => fround P (fun fn => { call := ih.1, round := ih.2, rounds := 100000, fn, around := some l }) l args A)) n

theorem fcalls_eq (P : Program) (orc : Oracle) : ∀ n, fcalls P orc n = acalls P orc n
  | 0 => rfl
  | n + 1 => by
    have ih := fcalls_eq P orc n
    show (fun f args A => fenter P orc f (fun fn => { call := (fcalls P orc n).1, round := (fcalls P orc n).2, rounds := 100000, fn, around := none }) args A,
      fun l args A => fround P (fun fn => { call := (fcalls P orc n).1, round := (fcalls P orc n).2, rounds := 100000, fn, around := some l }) l args A) = _
    rw [ih]
    simp only [fenter_eq, fround_eq]
    rfl

def fcall (P : Program) (orc : Oracle) (n : Nat) (f : FuncId) (args : List Value) (A : AHeap) : AR := (fcalls P orc n).1 f args A

theorem fcall_eq (P : Program) (orc : Oracle) (n : Nat) : fcall P orc n = acall P orc n := by
  funext f args A
  unfold fcall acall
  rw [fcalls_eq]

end Go.AI
