/- Proved: a region whose order is open gives the same in each order; under the checks that the reading makes. -/
import Derived.Test.YtaadikldoljdaaaGreatAiStep

/- Regions whose order is open: values that are the same; what has gone ahead; runs of operations. -/
namespace Go.AI

mutual
theorem veq_eq : ∀ {a b : Value}, veq a b = true → a = b
  | .bool a, b, h => by cases b <;> simp [veq] at h; subst h; rfl
  | .int j a, b, h => by cases b <;> simp [veq] at h; obtain ⟨rfl, rfl⟩ := h; rfl
  | .string a, b, h => by
    cases b <;> simp [veq] at h
    rename_i b
    obtain ⟨⟨a⟩⟩ := a; obtain ⟨⟨b⟩⟩ := b
    simp at h; subst h; rfl
  | .pointer a, b, h => by
    cases b with
    | pointer b => cases a <;> cases b <;> simp [veq] at h <;> first | rfl | (subst h; rfl)
    | _ => cases a <;> simp [veq] at h
  | .slice a m c, b, h => by
    cases b with
    | slice b n d => cases a <;> cases b <;> simp [veq] at h <;> first | (obtain ⟨rfl, rfl⟩ := h; rfl) | (obtain ⟨⟨rfl, rfl⟩, rfl⟩ := h; rfl)
    | _ => cases a <;> simp [veq] at h
  | .map a, b, h => by cases b <;> simp [veq] at h; subst h; rfl
  | .func f ⟨a⟩ ⟨c⟩, b, h => by
    cases b with
    | func g b d =>
      obtain ⟨b⟩ := b; obtain ⟨d⟩ := d
      simp [veq] at h
      obtain ⟨⟨rfl, h1⟩, h2⟩ := h
      rw [veqs_eq h1, veqs_eq h2]
    | _ => simp [veq] at h
  | .nilFunc, b, h => by cases b <;> simp [veq] at h; rfl
  | .iface t a, b, h => by
    cases b with
    | iface u b => simp [veq] at h; obtain ⟨rfl, h1⟩ := h; rw [veq_eq h1]
    | _ => simp [veq] at h
  | .nilIface, b, h => by cases b <;> simp [veq] at h; rfl
  | .agg ⟨a⟩, b, h => by
    cases b with
    | agg b => obtain ⟨b⟩ := b; simp [veq] at h; rw [veqs_eq h]
    | _ => simp [veq] at h
  | .tuple ⟨a⟩, b, h => by
    cases b with
    | tuple b => obtain ⟨b⟩ := b; simp [veq] at h; rw [veqs_eq h]
    | _ => simp [veq] at h
  | .float _ _, b, h => by cases b <;> simp [veq] at h
  | .complex _ _ _, b, h => by cases b <;> simp [veq] at h
  | .chan _, b, h => by cases b <;> simp [veq] at h
theorem veqs_eq : ∀ {a b : List Value}, veqs a b = true → a = b
  | [], [], _ => rfl
  | [], _ :: _, h => by simp [veqs] at h
  | _ :: _, [], h => by simp [veqs] at h
  | a :: l, b :: m, h => by simp [veqs] at h; rw [veq_eq h.1, veqs_eq h.2]
end

theorem oeq_eq {o p : AObj} (h : oeq o p = true) : o = p := by
  unfold oeq at h
  split at h
  · simp at h; rw [veqs_eq h.1, h.2]
  · simp at h; rw [h]
  · rename_i a m b n
    obtain ⟨⟨a⟩⟩ := a; obtain ⟨⟨b⟩⟩ := b
    simp at h; rw [h.1, h.2]
  · cases h

/-! ### What must have gone ahead -/

theorem bits_fold {acc : List Nat} {j : Nat} : ∀ (es : List Edge) (s : Nat), (es.foldl (init := s) fun s e => bif Region.binds .any e then s ||| 2 ^ e.on ||| (nth e.on acc).getD 0 else s).testBit j = true →
    s.testBit j = true ∨ ∃ e ∈ es, Region.binds .any e = true ∧ (e.on = j ∨ ((nth e.on acc).getD 0).testBit j = true)
  | [], s, h => .inl h
  | e :: es, s, h => by
    rcases bits_fold es _ h with h | ⟨e', h1, h2⟩
    · cases hb : Region.binds .any e with
      | false => simp only [hb, cond_false] at h; exact .inl h
      | true =>
        simp only [hb, cond_true, Nat.testBit_or, Bool.or_eq_true, Nat.testBit_two_pow, decide_eq_true_eq] at h
        rcases h with (h | h) | h
        · exact .inl h
        · exact .inr ⟨e, by simp, hb, .inl h⟩
        · exact .inr ⟨e, by simp, hb, .inr h⟩
    · exact .inr ⟨e', by simp [h1], h2⟩

theorem bitsOf_test {acc : List Nat} {o : Oper} {j : Nat} (h : (bitsOf acc o).testBit j = true) : ∃ e ∈ o.after, Region.binds .any e = true ∧ (e.on = j ∨ ((nth e.on acc).getD 0).testBit j = true) := by
  rcases bits_fold _ _ h with h | ⟨e, h1, h2⟩
  · simp at h
  · exact ⟨e, by simpa using h1, h2⟩

theorem befores_from (l : List Oper) : ∀ acc : List Nat, ∃ r, (l.foldl (init := acc) fun acc o => acc ++ [bitsOf acc o]) = acc ++ r ∧ r.length = l.length ∧
    ∀ (k : Nat) (o : Oper), l[k]? = some o → r[k]? = some (bitsOf (acc ++ r.take k) o) := by
  induction l with
  | nil => intro acc; exact ⟨[], by simp, rfl, fun k o h => by simp at h⟩
  | cons o l ih =>
    intro acc
    obtain ⟨r, h1, h2, h3⟩ := ih (acc ++ [bitsOf acc o])
    refine ⟨bitsOf acc o :: r, by simp only [List.foldl_cons]; rw [h1]; simp, by simp [h2], fun k o' hk => ?_⟩
    cases k with
    | zero => simp at hk; subst hk; simp
    | succ k =>
      have := h3 k o' (by simpa using hk)
      simpa using this

theorem befores_get {l : List Oper} {i : Nat} {o : Oper} (h : l[i]? = some o) : (befores l)[i]? = some (bitsOf ((befores l).take i) o) := by
  obtain ⟨r, h1, h2, h3⟩ := befores_from l []
  have : befores l = r := by unfold befores; rw [h1]; rfl
  rw [this]
  simpa using h3 i o h

theorem befores_len (l : List Oper) : (befores l).length = l.length := by
  obtain ⟨r, h1, h2, h3⟩ := befores_from l []
  have : befores l = r := by unfold befores; rw [h1]; rfl
  rw [this, h2]

theorem befores_test {l : List Oper} {i b j : Nat} (h : (befores l)[i]? = some b) (hj : b.testBit j = true) :
    ∃ o e, l[i]? = some o ∧ e ∈ o.after ∧ Region.binds .any e = true ∧ (e.on = j ∨ ∃ b', (befores l)[e.on]? = some b' ∧ b'.testBit j = true) := by
  have hlt : i < l.length := by rw [← befores_len]; exact (List.getElem?_eq_some_iff.1 h).1
  have ho : l[i]? = some l[i] := List.getElem?_eq_getElem hlt
  rw [befores_get ho] at h
  cases h
  obtain ⟨e, h1, h2, h3⟩ := bitsOf_test hj
  refine ⟨_, e, ho, h1, h2, ?_⟩
  rcases h3 with h3 | h3
  · exact .inl h3
  · right
    rw [nth_eq] at h3
    cases hx : ((befores l).take i)[e.on]? with
    | none => simp [hx] at h3
    | some b' =>
      rw [hx] at h3
      refine ⟨b', ?_, h3⟩
      have hlt2 := (List.getElem?_eq_some_iff.1 hx).1
      rw [List.getElem?_take] at hx
      split at hx
      · exact hx
      · cases hx

/-! ### Runs of operations -/

theorem drun_some {c : Ctx} {d : DOp} {env env' : Env} {A A' : AHeap} {r : DRec} (h : drun c d env A = some (r, env', A')) :
    r.d = d ∧ r.env = env ∧ r.heap = A ∧ r.after = A' ∧ d.put r.val env = some env' ∧
      (r.wanted = true ∧ d.guard env = true ∧ d.run c env A = some (r.val, A') ∨ r.wanted = false ∧ d.guard env = false ∧ r.val = .tuple #[] ∧ A' = A) := by
  unfold drun at h
  cases hg : d.guard env with
  | true =>
    simp only [hg, cond_true] at h
    split at h
    · rename_i v B hr
      split at h
      · cases h; exact ⟨rfl, rfl, rfl, rfl, by assumption, .inl ⟨rfl, rfl, by assumption⟩⟩
      · cases h
    · cases h
  | false =>
    simp only [hg, cond_false] at h
    split at h
    · cases h; exact ⟨rfl, rfl, rfl, rfl, by assumption, .inr ⟨rfl, rfl, rfl, rfl⟩⟩
    · cases h

theorem druns_append {c : Ctx} : ∀ (l m : List DOp) {env env1 env' : Env} {A A1 A' : AHeap} {R S : List DRec}, druns c l env A = some (R, env1, A1) → druns c m env1 A1 = some (S, env', A') → druns c (l ++ m) env A = some (R ++ S, env', A')
  | [], m, env, env1, env', A, A1, A', R, S, h, k => by simp only [druns, Option.some.injEq, Prod.mk.injEq] at h; obtain ⟨rfl, rfl, rfl⟩ := h; exact k
  | d :: l, m, env, env1, env', A, A1, A', R, S, h, k => by
    simp only [druns, List.cons_append] at h ⊢
    cases hd : drun c d env A with
    | none => simp [hd] at h
    | some x =>
      obtain ⟨r, e2, A2⟩ := x
      simp only [hd] at h ⊢
      cases hl : druns c l e2 A2 with
      | none => simp [hl] at h
      | some y =>
        obtain ⟨R2, e3, A3⟩ := y
        simp only [hl, Option.some.injEq, Prod.mk.injEq] at h
        obtain ⟨rfl, rfl, rfl⟩ := h
        rw [druns_append l m hl k]; rfl

/-- A run is made of runs. -/
theorem druns_split {c : Ctx} : ∀ (l : List DOp) {env env' : Env} {A A' : AHeap} {R : List DRec}, druns c l env A = some (R, env', A') → ∀ r, r ∈ R →
    ∃ l1 l2 R1 R2 e2, l = l1 ++ r.d :: l2 ∧ R = R1 ++ r :: R2 ∧ druns c l1 env A = some (R1, r.env, r.heap) ∧ drun c r.d r.env r.heap = some (r, e2, r.after) ∧ druns c l2 e2 r.after = some (R2, env', A')
  | [], env, env', A, A', R, h, r, hr => by simp only [druns, Option.some.injEq, Prod.mk.injEq] at h; obtain ⟨rfl, rfl, rfl⟩ := h; cases hr
  | d :: l, env, env', A, A', R, h, r, hr => by
    simp only [druns] at h
    cases hd : drun c d env A with
    | none => simp [hd] at h
    | some x =>
      obtain ⟨r0, e2, A2⟩ := x
      simp only [hd] at h
      cases hl : druns c l e2 A2 with
      | none => simp [hl] at h
      | some y =>
        obtain ⟨R2, e3, A3⟩ := y
        simp only [hl, Option.some.injEq, Prod.mk.injEq] at h
        obtain ⟨rfl, rfl, rfl⟩ := h
        obtain ⟨q1, q2, q3, q4, q5, q6⟩ := drun_some hd
        rcases List.mem_cons.1 hr with rfl | hr
        · exact ⟨[], l, [], R2, e2, by rw [q1]; rfl, rfl, by rw [q2, q3]; rfl, by rw [q1, q2, q3, q4]; exact hd, by rw [q4]; exact hl⟩
        · obtain ⟨l1, l2, R1, R3, e4, p1, p2, p3, p4, p5⟩ := druns_split l hl r hr
          refine ⟨d :: l1, l2, r0 :: R1, R3, e4, by rw [p1]; rfl, by rw [p2]; rfl, ?_, p4, p5⟩
          simp only [druns, hd, p3]

theorem druns_map {c : Ctx} : ∀ (l : List DOp) {env env' : Env} {A A' : AHeap} {R : List DRec}, druns c l env A = some (R, env', A') → R.map (·.d) = l
  | [], env, env', A, A', R, h => by simp only [druns, Option.some.injEq, Prod.mk.injEq] at h; obtain ⟨rfl, rfl, rfl⟩ := h; rfl
  | d :: l, env, env', A, A', R, h => by
    simp only [druns] at h
    cases hd : drun c d env A with
    | none => simp [hd] at h
    | some x =>
      obtain ⟨r0, e2, A2⟩ := x
      simp only [hd] at h
      cases hl : druns c l e2 A2 with
      | none => simp [hl] at h
      | some y =>
        obtain ⟨R2, e3, A3⟩ := y
        simp only [hl, Option.some.injEq, Prod.mk.injEq] at h
        obtain ⟨rfl, rfl, rfl⟩ := h
        rw [List.map_cons, druns_map l hl, (drun_some hd).1]

/-- What lies in a temporary after a run. -/
theorem druns_env {c : Ctx} {N : Nat} (hN : N ≤ 256) {t : Nat} (ht : t < N) : ∀ (l : List DOp) {env env' : Env} {A A' : AHeap} {R : List DRec}, (∀ x ∈ l, x.put = putDst N x.dst) → druns c l env A = some (R, env', A') →
    (∃ r ∈ R, r.d.dst = some t ∧ env'.get (dt N) t = r.val) ∨ ((∀ r ∈ R, r.d.dst ≠ some t) ∧ env'.get (dt N) t = env.get (dt N) t)
  | [], env, env', A, A', R, _, h => by simp only [druns, Option.some.injEq, Prod.mk.injEq] at h; obtain ⟨rfl, rfl, rfl⟩ := h; exact .inr ⟨(fun r hr => by cases hr), rfl⟩
  | d :: l, env, env', A, A', R, hp, h => by
    simp only [druns] at h
    cases hd : drun c d env A with
    | none => simp [hd] at h
    | some x =>
      obtain ⟨r0, e2, A2⟩ := x
      simp only [hd] at h
      cases hl : druns c l e2 A2 with
      | none => simp [hl] at h
      | some y =>
        obtain ⟨R2, e3, A3⟩ := y
        simp only [hl, Option.some.injEq, Prod.mk.injEq] at h
        obtain ⟨rfl, rfl, rfl⟩ := h
        obtain ⟨q1, q2, q3, q4, q5, q6⟩ := drun_some hd
        rw [hp d (by simp)] at q5
        rcases druns_env hN ht l (fun x hx => hp x (by simp [hx])) hl with ⟨r, h1, h2, h3⟩ | ⟨h1, h2⟩
        · exact .inl ⟨r, by simp [h1], h2, h3⟩
        · rcases putDst_some q5 with ⟨e1, rfl⟩ | ⟨s, e1, hs, rfl⟩
          · refine .inr ⟨fun r hr => ?_, h2⟩
            rcases List.mem_cons.1 hr with rfl | hr
            · rw [q1, e1]; simp
            · exact h1 r hr
          · by_cases e : s = t
            · subst e; exact .inl ⟨r0, by simp, by rw [q1]; exact e1, by rw [h2, env_same]⟩
            · refine .inr ⟨fun r hr => ?_, by rw [h2, env_ne _ hN hs ht e]⟩
              rcases List.mem_cons.1 hr with rfl | hr
              · rw [q1, e1]; simpa using e
              · exact h1 r hr

end Go.AI

/- Regions whose order is open: what is known of them. -/
namespace Go.AI

structure Rg (P : Program) (N : Nat) (ops : Array Oper) (can : List DOp) : Prop where
  hN : N ≤ 256
  op : ∀ x, x ∈ can → ∃ o, ops[x.i]? = some o ∧ dop P N ops.toList (befores ops.toList) x.i o = some x
  cov : ∀ i, i < ops.size → ∃ x, x ∈ can ∧ x.i = i
  tidy : ∀ w, w ∈ can → ∀ t, w.dst = some t → ∀ r, r ∈ can → r.i = w.i ∨ r.dst ≠ some t ∧ (t ∉ r.reads ∨ r.before.testBit w.i = true ∨ w.before.testBit r.i = true)
  ord : can.Pairwise fun x y => x.i ≠ y.i ∧ x.before.testBit y.i = false
  eag : eager none can = true
  edge : ∀ (i : Nat) (o : Oper), ops[i]? = some o → ∀ e, e ∈ o.after → Region.binds .any e = true → e.on < i

section
variable {P : Program} {N : Nat}

theorem dop_some {ops : List Oper} {bs : List Nat} {i : Nat} {o : Oper} {x : DOp} (h : dop P N ops bs i o = some x) :
    x.i = i ∧ x.dst = o.dst ∧ x.put = putDst N o.dst ∧ bs[i]? = some x.before ∧ aguard N ops o = some x.guard ∧ aoper P N o = some (x.sort, x.run) ∧
      (∀ t, t ∈ tmpsOf o.op.operands.toList → t ∈ x.reads) ∧ (∀ j want p t, o.guard = some (j, want) → ops[j]? = some p → p.dst = some t → t ∈ x.reads) := by
  unfold dop at h
  split at h
  · rename_i g s f b hg hf hb
    cases h
    refine ⟨rfl, rfl, rfl, by rw [← nth_eq]; exact hb, hg, hf, fun t ht => by simp [ht], fun j want p t h1 h2 h3 => ?_⟩
    simp [h1, nth_eq, h2, h3]
  · cases h

theorem aoper_sort {o : Oper} {s : Sort4} {f : Ctx → Env → AHeap → AR} (h : aoper P N o = some (s, f)) : s = .acts ∨ ∃ g, f = (fun _ => g) ∧ SortOK P N s o.op o.type g ∧ ∀ c, o.op ≠ .defer c := by
  unfold aoper at h
  generalize hop : o.op = op at h
  split at h
  · cases h; exact .inl rfl
  · split at h
    · rename_i s' f' hf
      cases h
      exact .inr ⟨f', rfl, aop_ok hf, aop_noDefer hf⟩
    · cases h

theorem acts_false {x : DOp} (h : x.acts = false) : x.sort ≠ .acts := by
  intro e; unfold DOp.acts at h; rw [e] at h; cases h
theorem acts_true {x : DOp} (h : x.acts = true) : x.sort = .acts := by
  unfold DOp.acts at h; split at h
  · assumption
  · cases h

/-- A record of an operation that lays. -/
def laysR (r : DRec) : Prop := r.wanted = true ∧ r.d.sort = .lays

theorem druns_grow {c : Ctx} : ∀ (l : List DOp) {env env' : Env} {A A' : AHeap} {R : List DRec}, (∀ x ∈ l, x.acts = false ∧ ∃ o, aoper P N o = some (x.sort, x.run)) → (∀ i, A.next ≤ i → A.get i = none) →
    druns c l env A = some (R, env', A') → Grow A A' ∧ (∀ r ∈ R, laysR r → A.next ≤ r.heap.next ∧ r.heap.next < A'.next) ∧ R.Pairwise fun r s => laysR r → laysR s → r.heap.next < s.heap.next
  | [], env, env', A, A', R, _, ht, h => by
    simp only [druns, Option.some.injEq, Prod.mk.injEq] at h; obtain ⟨rfl, rfl, rfl⟩ := h
    exact ⟨.refl ht, fun r hr => (by cases hr), .nil⟩
  | d :: l, env, env', A, A', R, hp, ht, h => by
    simp only [druns] at h
    cases hd : drun c d env A with
    | none => simp [hd] at h
    | some x =>
      obtain ⟨r0, e2, A2⟩ := x
      simp only [hd] at h
      cases hl : druns c l e2 A2 with
      | none => simp [hl] at h
      | some y =>
        obtain ⟨R2, e3, A3⟩ := y
        simp only [hl, Option.some.injEq, Prod.mk.injEq] at h
        obtain ⟨rfl, rfl, rfl⟩ := h
        obtain ⟨q1, q2, q3, q4, q5, q6⟩ := drun_some hd
        have key : Grow A A2 ∧ (laysR r0 → A2.next = A.next + 1) := by
          rcases q6 with ⟨p1, p2, p3⟩ | ⟨p1, p2, p3, p4⟩
          · obtain ⟨ha, o, ho⟩ := hp d (by simp)
            rcases aoper_sort ho with hs | ⟨g, hg, hs, -⟩
            · exact absurd hs (acts_false ha)
            · rw [hg] at p3
              cases hsort : d.sort with
              | acts => exact absurd hsort (acts_false ha)
              | pure =>
                rw [hsort] at hs
                have := (hs.1 _ _ _ _ p3).1; subst this
                exact ⟨.refl ht, fun h => by have := h.2; rw [q1, hsort] at this; cases this⟩
              | reads =>
                rw [hsort] at hs
                have := (hs _ _ _ _ p3).1; subst this
                exact ⟨.refl ht, fun h => by have := h.2; rw [q1, hsort] at this; cases this⟩
              | lays =>
                rw [hsort] at hs
                obtain ⟨ob, hpush, -⟩ := hs _ _ _ _ p3
                exact ⟨Grow.push ht hpush, fun _ => (AHeap.push_eq hpush).2.2.1⟩
          · subst p4; exact ⟨.refl ht, fun h => by have := h.1; rw [p1] at this; cases this⟩
        obtain ⟨g1, g2⟩ := key
        obtain ⟨k1, k2, k3⟩ := druns_grow l (fun x hx => hp x (by simp [hx])) g1.top hl
        refine ⟨g1.trans k1, fun r hr hlay => ?_, .cons (fun s hs h1 h2 => ?_) k3⟩
        · rcases List.mem_cons.1 hr with rfl | hr
          · rw [q3]; have := g2 hlay; have := k1.next; exact ⟨Nat.le_refl _, by omega⟩
          · have h5 := k2 r hr hlay; have h6 := g1.next; exact ⟨by omega, h5.2⟩
        · have := g2 h1; have := k2 s hs h2; rw [q3]; omega

/-- A block that lies in the abstract heap is born in memory, from its own operation. -/
theorem HR.bornLaid {ρ : Emb} {A : AHeap} {w : World} (h : HR P ρ A w) {n i : Nat} (hnone : ρ i = none) (hi : i < A.next) (hni : n ≤ i) {ob : AObj} (hg : A.get i = some ob) {v v' : Value} {Wd : World} (hl : LaidR P ρ i ob v w v' Wd) :
    ∃ ρ', VR ρ' v v' ∧ HR P ρ' A Wd ∧ Ext n ρ A w ρ' A Wd ∧ ∀ j, j ≠ i → ρ' j = ρ j := by
  obtain ⟨o', cap, esz, e, e1, e2, e3, hr⟩ := hl
  obtain ⟨r1, r2⟩ := hr (ρ.with i ⟨w.heap.size, 0, cap, esz⟩) (Emb.with_le hnone) (by simp)
  refine ⟨ρ.with i ⟨w.heap.size, 0, cap, esz⟩, r1, ?_, ?_, fun j hj => Emb.with_ne hj⟩
  · refine ⟨?_, ?_, ?_, h.top⟩
    · intro j k ej
      by_cases hj : j = i
      · subst hj; simp at ej; subst ej; exact ⟨hi, by rw [e]; simp⟩
      · rw [Emb.with_ne hj] at ej; exact ⟨(h.dom j k ej).1, by rw [e]; have := (h.dom j k ej).2; simp; omega⟩
    · intro a b la lb ea eb ha hb e
      by_cases h1 : a = i
      · by_cases h2 : b = i
        · omega
        · rw [Emb.with_ne h2] at eb; subst h1; simp at ea; subst ea; have := (h.dom b lb eb).2; simp only at e; omega
      · by_cases h2 : b = i
        · rw [Emb.with_ne h1] at ea; subst h2; simp at eb; subst eb; have := (h.dom a la ea).2; simp only at e; omega
        · rw [Emb.with_ne h1] at ea; rw [Emb.with_ne h2] at eb
          exact h.inj a b la lb ea eb ha hb e
    · intro j k oj ej hj
      by_cases h1 : j = i
      · subst h1; simp at ej; subst ej; rw [hg] at hj; cases hj
        exact ⟨o', by rw [e]; simp, r2⟩
      · rw [Emb.with_ne h1] at ej
        obtain ⟨x, hx, hr⟩ := h.obj j k oj ej hj
        exact ⟨x, by rw [e, Array.getElem?_push, if_neg (Nat.ne_of_lt (h.dom j k ej).2)]; exact hx, hr.mono (Emb.with_le hnone)⟩
  · refine ⟨Emb.with_le hnone, ?_, Nat.le_refl _, by rw [e]; simp, ?_, ?_, e1, e2, e3⟩
    · intro j hj ej; rw [Emb.with_ne (by omega)]; exact ej
    · intro b hb _; rw [e, Array.getElem?_push, if_neg (Nat.ne_of_lt hb)]
    · rintro b hb ⟨j, k, ej, hj, hbk⟩
      by_cases h1 : j = i
      · subst h1; simp at ej; subst ej; simp only at hbk; omega
      · rw [Emb.with_ne h1] at ej; exact ⟨j, k, ej, hj, hbk⟩

theorem Ext.grow {n : Nat} {ρ ρ' : Emb} {A A' A'' : AHeap} {w w' : World} (h : Ext n ρ A w ρ' A' w') (hd : ∀ i l, ρ' i = some l → i < A'.next) (g : Grow A' A'') : Ext n ρ A w ρ' A'' w' :=
  { h with next := Nat.le_trans h.next g.next, own := fun b hb ho => h.own b hb ((Own.grow hd g b).1 ho) }

/-! ### What is listed -/

def In (L : Array Bool) (i : Nat) : Prop := L.getD i false = true

theorem In.set {L : Array Bool} {i : Nat} (hi : i < L.size) (j : Nat) : In (L.setIfInBounds i true) j ↔ j = i ∨ In L j := by
  unfold In
  by_cases h : j = i
  · subst h; simp [Array.getD_eq_getD_getElem?, hi]
  · simp [Array.getD_eq_getD_getElem?, Array.getElem?_setIfInBounds_ne (Ne.symm h), h]

theorem not_in {L : Array Bool} {i : Nat} (h : L.getD i true = false) : ¬ In L i ∧ i < L.size := by
  unfold In
  simp only [Array.getD_eq_getD_getElem?] at h ⊢
  cases hx : L[i]? with
  | none => simp [hx] at h
  | some b => simp [hx] at h; subst h; exact ⟨by simp, (Array.getElem?_eq_some_iff.1 hx).1⟩

theorem of_not_in {L : Array Bool} {i : Nat} (hi : i < L.size) (h : ¬ In L i) : L.getD i true = false := by
  unfold In at h
  simp [Array.getD_eq_getD_getElem?, hi] at h ⊢
  exact h

theorem Rg.uniq {ops : Array Oper} {can : List DOp} (g : Rg P N ops can) {x y : DOp} (hx : x ∈ can) (hy : y ∈ can) (h : x.i = y.i) : x = y := by
  obtain ⟨o, h1, h2⟩ := g.op x hx
  obtain ⟨o', h3, h4⟩ := g.op y hy
  rw [h, h3] at h1; cases h1
  rw [h, h4] at h2; cases h2; rfl

/-- Whoever is up next has all behind him that must have gone ahead. -/
theorem Rg.behind {ops : Array Oper} {can : List DOp} (g : Rg P N ops can) {L : Array Bool} (hd : ∀ x, x ∈ can → In L x.i → ∀ j, x.before.testBit j = true → In L j) {x : DOp} (hx : x ∈ can) (hr : x.i ∈ Region.ready .any ops L) :
    ¬ In L x.i ∧ x.i < L.size ∧ ∀ j, x.before.testBit j = true → In L j := by
  obtain ⟨h1, o, h2, h3⟩ := mem_ready.1 hr
  obtain ⟨n1, n2⟩ := not_in h1
  refine ⟨n1, n2, fun j hj => ?_⟩
  obtain ⟨o', ho', hdop⟩ := g.op x hx
  obtain ⟨-, -, -, hb, -⟩ := dop_some hdop
  obtain ⟨o2, e, p1, p2, p3, p4⟩ := befores_test hb hj
  have p1' : ops[x.i]? = some o2 := by simpa using p1
  rw [h2] at p1'; cases p1'
  have hin := h3 e p2 p3
  rcases p4 with rfl | ⟨b', p5, p6⟩
  · exact hin
  · have hlt : e.on < ops.size := by
      have := (List.getElem?_eq_some_iff.1 p5).1; rw [befores_len] at this; simpa using this
    obtain ⟨y, hy, hyi⟩ := g.cov e.on hlt
    obtain ⟨oy, -, hdy⟩ := g.op y hy
    obtain ⟨-, -, -, hby, -⟩ := dop_some hdy
    rw [hyi, p5] at hby; cases hby
    exact hd y hy (by rw [hyi]; exact hin) j p6

theorem eager_mem : ∀ (l : List DOp) (j : Nat), eager (some j) l = true → ∀ x, x ∈ l → x.before.testBit j = true ∨ ∃ y, y ∈ l ∧ x.before.testBit y.i = true
  | [], j, _, x, hx => by cases hx
  | y :: l, j, h, x, hx => by
    simp only [eager, Bool.and_eq_true, Bool.cond_eq_ite] at h
    rcases List.mem_cons.1 hx with rfl | hx
    · exact .inl h.1
    · have h2 := h.2
      split at h2
      · rcases eager_mem l y.i h2 x hx with h3 | ⟨z, h3, h4⟩
        · exact .inr ⟨y, by simp, h3⟩
        · exact .inr ⟨z, by simp [h3], h4⟩
      · rcases eager_mem l j h2 x hx with h3 | ⟨z, h3, h4⟩
        · exact .inl h3
        · exact .inr ⟨z, by simp [h3], h4⟩

theorem eager_append : ∀ (l m : List DOp) (last : Option Nat), eager last (l ++ m) = true → ∃ last', eager last' m = true
  | [], m, last, h => ⟨last, h⟩
  | x :: l, m, last, h => by
    simp only [List.cons_append, eager, Bool.and_eq_true] at h
    exact eager_append l m _ h.2

/-- Of what is still to come none is up but the first. -/
theorem Rg.first {ops : Array Oper} {can : List DOp} (g : Rg P N ops can) {L : Array Bool} (hd : ∀ x, x ∈ can → In L x.i → ∀ j, x.before.testBit j = true → In L j) {done tail : List DOp} {e : DOp} (hs : can = done ++ e :: tail) (he : e.acts = true)
    (htodo : ∀ x, x ∈ e :: tail → ¬ In L x.i) {x : DOp} (hx : x ∈ e :: tail) (hr : x.i ∈ Region.ready .any ops L) : x = e := by
  rcases List.mem_cons.1 hx with rfl | hx
  · rfl
  · exfalso
    have hxc : x ∈ can := by rw [hs]; simp [hx]
    obtain ⟨h1, h2, h3⟩ := g.behind hd hxc hr
    have hea := g.eag
    rw [hs] at hea
    obtain ⟨last, hea⟩ := eager_append _ _ _ hea
    simp only [eager, Bool.and_eq_true, he, cond_true] at hea
    rcases eager_mem _ _ hea.2 x hx with h4 | ⟨y, h4, h5⟩
    · exact htodo e (by simp) (h3 _ h4)
    · exact htodo y (by simp [h4]) (h3 _ h5)

/-- What a stage has looked over. -/
theorem dstages_still {c : Ctx} {zs : List (DOp × List DOp)} {prev : Nat} {rs : List DRec} {env envF : Env} {A AF : AHeap} (h : dstages c zs prev rs env A = some (envF, AF)) :
    ∀ r, r ∈ rs → prev.testBit r.d.i = true ∨ still c r A = true := by
  intro r hr
  cases zs with
  | nil =>
    simp only [dstages, Bool.cond_eq_ite] at h
    split at h
    · rename_i hall
      have := List.all_eq_true.1 hall r hr
      simpa using this
    · cases h
  | cons z rest =>
    obtain ⟨e, ds⟩ := z
    simp only [dstages, Bool.cond_eq_ite] at h
    split at h
    · rename_i hall
      cases hp : prev.testBit r.d.i with
      | true => exact .inl rfl
      | false => exact .inr (List.all_eq_true.1 hall r (by simp [hr, hp]))
    · cases h

end
end Go.AI

/- Regions whose order is open: every order comes to the same. -/
namespace Go.AI

section
variable {P : Program} {N : Nat}

structure Inv (P : Program) (N : Nat) (c : Ctx) (ops : Array Oper) (can : List DOp) (env0 : Env) (A0 : AHeap) (ρ0 : Emb) (w0 : World) (a0 : Act) (envF : Env) (AF : AHeap)
    (L : Array Bool) (a : Act) (w : World) (ρ : Emb) (done : List DOp) (zs : List (DOp × List DOp)) (RD : List DRec) (env : Env) (A : AHeap) : Prop where
  split : can = done ++ joined zs
  run : druns c done env0 A0 = some (RD, env, A)
  chk : ∃ prev rs, dstages c zs prev rs env A = some (envF, AF) ∧ (∀ r, r ∈ RD → r.d.acts = false → (∃ e, e ∈ done ∧ e.acts = true ∧ e.before.testBit r.d.i = true) ∨ r ∈ rs) ∧
    ∀ j, prev.testBit j = true → ∃ e, e ∈ done ∧ e.acts = true ∧ e.before.testBit j = true
  zsok : ∀ z, z ∈ zs → z.1.acts = true ∧ ∀ d, d ∈ z.2 → d.acts = false
  todo : ∀ x, x ∈ joined zs → ¬ In L x.i
  acts : ∀ x, x ∈ done → x.acts = true → In L x.i
  down : ∀ x, x ∈ can → In L x.i → ∀ j, x.before.testBit j = true → In L j
  heap : HR P ρ A w
  ext : Ext A0.next ρ0 A0 w0 ρ A w
  tsize : a.tmps.size = N
  tmps : ∀ t, t < N → ∃ v', a.tmps[t]? = some v' ∧ (∀ r, r ∈ RD → r.d.dst = some t → In L r.d.i → VR ρ r.val v') ∧ ((∀ r, r ∈ RD → r.d.dst = some t → ¬ In L r.d.i) → VR ρ (env0.get (dt N) t) v')
  lays1 : ∀ r, r ∈ RD → laysR r → A0.next ≤ r.heap.next ∧ r.heap.next < A.next ∧ (¬ In L r.d.i → ρ r.heap.next = none)
  lays2 : RD.Pairwise fun r s => laysR r → laysR s → r.heap.next < s.heap.next
  size : L.size = ops.size
  defers : a.defers = a0.defers

variable {c : Ctx} {ops : Array Oper} {can : List DOp} {env0 : Env} {A0 : AHeap} {ρ0 : Emb} {w0 : World} {a0 : Act} {envF : Env} {AF : AHeap}
  {L : Array Bool} {a : Act} {w : World} {ρ : Emb} {done : List DOp} {zs : List (DOp × List DOp)} {RD : List DRec} {env : Env} {A : AHeap}

theorem Inv.mem_done (inv : Inv P N c ops can env0 A0 ρ0 w0 a0 envF AF L a w ρ done zs RD env A) {r : DRec} (h : r ∈ RD) : r.d ∈ done := by
  rw [← druns_map _ inv.run]; exact List.mem_map_of_mem h

theorem Inv.mem_can (inv : Inv P N c ops can env0 A0 ρ0 w0 a0 envF AF L a w ρ done zs RD env A) {r : DRec} (h : r ∈ RD) : r.d ∈ can := by
  rw [inv.split]; exact List.mem_append_left _ (inv.mem_done h)

theorem Inv.rec_of (inv : Inv P N c ops can env0 A0 ρ0 w0 a0 envF AF L a w ρ done zs RD env A) {x : DOp} (h : x ∈ done) : ∃ r, r ∈ RD ∧ r.d = x := by
  rw [← druns_map _ inv.run] at h
  obtain ⟨r, h1, h2⟩ := List.mem_map.1 h
  exact ⟨r, h1, h2⟩

/-- A record and its place. -/
theorem Inv.place (inv : Inv P N c ops can env0 A0 ρ0 w0 a0 envF AF L a w ρ done zs RD env A) (g : Rg P N ops can) {r : DRec} (hr : r ∈ RD) :
    ∃ R1 R2 l1 e2, RD = R1 ++ r :: R2 ∧ druns c l1 env0 A0 = some (R1, r.env, r.heap) ∧ (∀ x, x ∈ l1 → x ∈ can) ∧ drun c r.d r.env r.heap = some (r, e2, r.after) ∧
      (∀ s, s ∈ R1 → s.d.i ≠ r.d.i ∧ s.d.before.testBit r.d.i = false) ∧ (∀ s, s ∈ R2 → s.d.i ≠ r.d.i ∧ r.d.before.testBit s.d.i = false) := by
  obtain ⟨l1, l2, R1, R2, e2, h1, h2, h3, h4, h5⟩ := druns_split _ inv.run r hr
  have hord := g.ord
  rw [inv.split, h1, List.append_assoc, List.pairwise_append] at hord
  obtain ⟨-, o2, o3⟩ := hord
  rw [List.cons_append, List.pairwise_cons] at o2
  refine ⟨R1, R2, l1, e2, h2, h3, fun x hx => by rw [inv.split, h1]; simp [hx], h4, fun s hs => ?_, fun s hs => ?_⟩
  · have hsd : s.d ∈ l1 := by rw [← druns_map _ h3]; exact List.mem_map_of_mem hs
    exact o3 s.d hsd r.d (by simp)
  · have hsd : s.d ∈ l2 := by rw [← druns_map _ h5]; exact List.mem_map_of_mem hs
    have := o2.1 s.d (by simp [hsd])
    exact ⟨Ne.symm this.1, this.2⟩

theorem Inv.rec_uniq (inv : Inv P N c ops can env0 A0 ρ0 w0 a0 envF AF L a w ρ done zs RD env A) (g : Rg P N ops can) {r s : DRec} (hr : r ∈ RD) (hs : s ∈ RD) (h : s.d.i = r.d.i) : s = r := by
  obtain ⟨R1, R2, l1, e2, h1, h2, -, h3, h4, h5⟩ := inv.place g hr
  rw [h1] at hs
  rcases List.mem_append.1 hs with hs | hs
  · exact absurd h (h4 s hs).1
  · rcases List.mem_cons.1 hs with rfl | hs
    · rfl
    · exact absurd h (h5 s hs).1

theorem Rg.put {ops : Array Oper} {can : List DOp} (g : Rg P N ops can) {x : DOp} (hx : x ∈ can) : x.put = putDst N x.dst := by
  obtain ⟨o, -, h⟩ := g.op x hx
  obtain ⟨-, h1, h2, -⟩ := dop_some h
  rw [h2, h1]

/-- What an operation reads, here and there: of those ahead of it in the run all that wrote it are listed. -/
theorem Inv.reads (inv : Inv P N c ops can env0 A0 ρ0 w0 a0 envF AF L a w ρ done zs RD env A) (g : Rg P N ops can) {x : DOp} (hx : x ∈ can) (hnot : ¬ In L x.i) (hbeh : ∀ j, x.before.testBit j = true → In L j)
    {l1 : List DOp} {R1 : List DRec} {envx : Env} {Ax : AHeap} (hrun : druns c l1 env0 A0 = some (R1, envx, Ax)) (hl1 : ∀ x, x ∈ l1 → x ∈ can)
    (h1 : ∀ s, s ∈ R1 → s ∈ RD ∧ s.d.i ≠ x.i ∧ s.d.before.testBit x.i = false) (h2 : ∀ s, s ∈ RD → s ∈ R1 ∨ s.d.i = x.i ∨ s.d.i ≠ x.i ∧ x.before.testBit s.d.i = false)
    {t : Nat} (ht : t < N) (hrd : t ∈ x.reads) : ∃ v', a.tmps[t]? = some v' ∧ VR ρ (envx.get (dt N) t) v' := by
  obtain ⟨v', q1, q2, q3⟩ := inv.tmps t ht
  refine ⟨v', q1, ?_⟩
  rcases druns_env g.hN ht l1 (fun y hy => g.put (hl1 y hy)) hrun with ⟨s, s1, s2, s3⟩ | ⟨s1, s2⟩
  · rw [s3]
    obtain ⟨m1, m2, m3⟩ := h1 s s1
    refine q2 s m1 s2 ?_
    rcases g.tidy s.d (inv.mem_can m1) t s2 x hx with e | ⟨e1, e2 | e2 | e2⟩
    · exact absurd e.symm m2
    · exact absurd hrd e2
    · exact hbeh _ e2
    · rw [m3] at e2; cases e2
  · rw [s2]
    refine q3 fun s hs hd => ?_
    rcases h2 s hs with h | h | ⟨h, h'⟩
    · exact absurd hd (s1 s h)
    · rw [h]; exact hnot
    · rcases g.tidy s.d (inv.mem_can hs) t hd x hx with e | ⟨e1, e2 | e2 | e2⟩
      · exact absurd e.symm h
      · exact absurd hrd e2
      · rw [h'] at e2; cases e2
      · exact fun hin => hnot (inv.down s.d (inv.mem_can hs) hin _ e2)

theorem tmpsOf_mem {xs : List Operand} {t : Tmp} (h : Operand.tmp t ∈ xs) : t ∈ tmpsOf xs := by
  unfold tmpsOf; exact List.mem_filterMap.2 ⟨.tmp t, h, rfl⟩

/-- The temporaries after an operation that has been listed. -/
theorem Inv.tmps_set (inv : Inv P N c ops can env0 A0 ρ0 w0 a0 envF AF L a w ρ done zs RD env A) (g : Rg P N ops can) {r : DRec} (hr : r ∈ RD) (hlt : r.d.i < L.size) (hput : ∃ e1 e2, putDst N r.d.dst r.val e1 = some e2)
    {ρ' : Emb} (hle : ρ.le ρ') {v' : Value} (hv : VR ρ' r.val v') :
    (a.put r.d.dst v').tmps.size = N ∧ ∀ t, t < N → ∃ u, (a.put r.d.dst v').tmps[t]? = some u ∧ (∀ s, s ∈ RD → s.d.dst = some t → In (L.setIfInBounds r.d.i true) s.d.i → VR ρ' s.val u) ∧
      ((∀ s, s ∈ RD → s.d.dst = some t → ¬ In (L.setIfInBounds r.d.i true) s.d.i) → VR ρ' (env0.get (dt N) t) u) := by
  obtain ⟨e1, e2, hput⟩ := hput
  have hsz := inv.tsize
  have keep : ∀ t, t < N → r.d.dst ≠ some t → ∀ u, a.tmps[t]? = some u → (∀ s, s ∈ RD → s.d.dst = some t → In L s.d.i → VR ρ s.val u) → ((∀ s, s ∈ RD → s.d.dst = some t → ¬ In L s.d.i) → VR ρ (env0.get (dt N) t) u) →
      (∀ s, s ∈ RD → s.d.dst = some t → In (L.setIfInBounds r.d.i true) s.d.i → VR ρ' s.val u) ∧ ((∀ s, s ∈ RD → s.d.dst = some t → ¬ In (L.setIfInBounds r.d.i true) s.d.i) → VR ρ' (env0.get (dt N) t) u) := by
    intro t ht hne u hu h1 h2
    refine ⟨fun s hs hd hin => ?_, fun hall => (h2 fun s hs hd hin => hall s hs hd ((In.set hlt _).2 (.inr hin))).mono hle⟩
    rcases (In.set hlt _).1 hin with e | hin
    · have := inv.rec_uniq g hr hs e; subst this; exact absurd hd hne
    · exact (h1 s hs hd hin).mono hle
  rcases putDst_some hput with ⟨hd, -⟩ | ⟨t0, hd, ht0, -⟩
  · rw [hd]
    refine ⟨hsz, fun t ht => ?_⟩
    obtain ⟨u, q1, q2, q3⟩ := inv.tmps t ht
    exact ⟨u, q1, keep t ht (by rw [hd]; simp) u q1 q2 q3⟩
  · rw [hd]
    refine ⟨by simpa [Act.put] using hsz, fun t ht => ?_⟩
    by_cases e : t0 = t
    · subst e
      refine ⟨v', by simp [Act.put, hsz, ht], fun s hs hds _ => ?_, fun hall => absurd ((In.set hlt _).2 (.inl rfl)) (hall r hr hd)⟩
      rcases g.tidy r.d (inv.mem_can hr) t0 hd s.d (inv.mem_can hs) with h | ⟨h, -⟩
      · rw [inv.rec_uniq g hr hs h]; exact hv
      · exact absurd hds h
    · obtain ⟨u, q1, q2, q3⟩ := inv.tmps t ht
      refine ⟨u, by simp only [Act.put]; rw [Array.getElem?_setIfInBounds_ne e]; exact q1, keep t ht (by rw [hd]; simpa using e) u q1 q2 q3⟩

/-- The invariant after an operation that is no effect. -/
theorem Inv.listed (inv : Inv P N c ops can env0 A0 ρ0 w0 a0 envF AF L a w ρ done zs RD env A) (g : Rg P N ops can) {r : DRec} (hr : r ∈ RD) (hlt : r.d.i < L.size) (hbeh : ∀ j, r.d.before.testBit j = true → In L j)
    (hput : ∃ e1 e2, putDst N r.d.dst r.val e1 = some e2) {ρ' : Emb} {w' : World} {v' : Value} (hv : VR ρ' r.val v') (hh : HR P ρ' A w') (hext : Ext A0.next ρ A w ρ' A w')
    (hun : ∀ s, s ∈ RD → laysR s → s ≠ r → ρ s.heap.next = none → ρ' s.heap.next = none) :
    Inv P N c ops can env0 A0 ρ0 w0 a0 envF AF (L.setIfInBounds r.d.i true) (a.put r.d.dst v') w' ρ' done zs RD env A := by
  obtain ⟨t1, t2⟩ := inv.tmps_set g hr hlt hput hext.sub hv
  refine ⟨inv.split, inv.run, inv.chk, inv.zsok, fun x hx hin => ?_, fun x hx ha => (In.set hlt _).2 (.inr (inv.acts x hx ha)), fun x hx hin j hj => ?_, hh, inv.ext.trans hext (Nat.le_refl _), t1, t2, fun s hs hlay => ?_, inv.lays2, by simpa using inv.size, (put_defers ..).trans inv.defers⟩
  · rcases (In.set hlt _).1 hin with e | hin
    · have hord := g.ord
      rw [inv.split, List.pairwise_append] at hord
      exact (hord.2.2 r.d (inv.mem_done hr) x hx).1 e.symm
    · exact inv.todo x hx hin
  · refine (In.set hlt _).2 (.inr ?_)
    rcases (In.set hlt _).1 hin with e | hin
    · rw [g.uniq hx (inv.mem_can hr) e] at hj; exact hbeh j hj
    · exact inv.down x hx hin j hj
  · obtain ⟨l1, l2, l3⟩ := inv.lays1 s hs hlay
    refine ⟨l1, l2, fun hnin => hun s hs hlay (fun e => hnin ((In.set hlt _).2 (.inl (by rw [e])))) (l3 fun hin => hnin ((In.set hlt _).2 (.inr hin)))⟩

/-- One that is no effect is carried out. -/
theorem Inv.calm (inv : Inv P N c ops can env0 A0 ρ0 w0 a0 envF AF L a w ρ done zs RD env A) (g : Rg P N ops can) {x : DOp} (hx : x ∈ done) (hready : x.i ∈ Region.ready .any ops L) {r : Option Nat} {n : Nat} {K : Act → World → Prop} {Q : Exit → Act → World → Prop}
    (hK : ∀ a' w' ρ', Inv P N c ops can env0 A0 ρ0 w0 a0 envF AF (L.setIfInBounds x.i true) a' w' ρ' done zs RD env A → K a' w') : wpOpIn (W r) n P ops Q x.i K a w := by
  obtain ⟨rc, hrc, rfl⟩ := inv.rec_of hx
  have hxc := inv.mem_can hrc
  obtain ⟨hnot, hlt, hbeh⟩ := g.behind inv.down hxc hready
  have hna : rc.d.acts = false := by
    cases h : rc.d.acts with
    | false => rfl
    | true => exact absurd (inv.acts _ hx h) hnot
  obtain ⟨R1, R2, l1, e2, hRD, hrun1, hl1, hdr, hR1, hR2⟩ := inv.place g hrc
  obtain ⟨-, -, -, -, d5, d6⟩ := drun_some hdr
  obtain ⟨o, ho, hdop⟩ := g.op _ hxc
  obtain ⟨-, o1, o2, -, o3, o4, o5, o6⟩ := dop_some hdop
  have hput : ∃ e1 e2, putDst N rc.d.dst rc.val e1 = some e2 := ⟨_, _, by rw [← g.put hxc]; exact d5⟩
  have hrd : ∀ t, t < N → t ∈ rc.d.reads → ∃ v', a.tmps[t]? = some v' ∧ VR ρ (rc.env.get (dt N) t) v' := fun t ht hm =>
    inv.reads g hxc hnot hbeh hrun1 hl1 (fun s hs => ⟨by rw [hRD]; simp [hs], hR1 s hs⟩) (fun s hs => by
      rw [hRD] at hs
      rcases List.mem_append.1 hs with hs | hs
      · exact .inl hs
      · rcases List.mem_cons.1 hs with rfl | hs
        · exact .inr (.inl rfl)
        · exact .inr (.inr (hR2 s hs))) ht hm
  have hopr : ∀ xs, (∀ t, t ∈ tmpsOf xs → t ∈ rc.d.reads) → OpR ρ N rc.env a xs := fun xs hxs y hy v hv => aeval_rel hv fun t e ht => by
    subst e
    obtain ⟨v', q1, q2⟩ := hrd t ht (hxs t (tmpsOf_mem hy))
    have : a.eval (.tmp t) = v' := by simp [Act.eval, Array.getD_eq_getD_getElem?, q1]
    rw [this]; exact q2
  have hw : Region.wanted o (yielded ops a.tmps) = rc.d.guard rc.env := wanted_iff o3 fun j want p t h1 h2 h3 ht => hrd t ht (o6 j want p t h1 (by simpa using h2) h3)
  unfold wpOpIn
  simp only [ho, hw]
  rcases d6 with ⟨p1, p2, p3⟩ | ⟨p1, p2, p3, p4⟩
  · -- it is wanted
    simp only [p2, if_true]
    rcases aoper_sort o4 with hs | ⟨f, hf, hs, hnd⟩
    · exact absurd hs (acts_false hna)
    -- it is looked over
    have hstill : still c rc A = true := by
      obtain ⟨prev, rs, h1, h2, h3⟩ := inv.chk
      have nope : (∃ e, e ∈ done ∧ e.acts = true ∧ e.before.testBit rc.d.i = true) → False := fun ⟨e, q1, q2, q3⟩ =>
        hnot (inv.down e (by rw [inv.split]; simp [q1]) (inv.acts e q1 q2) _ q3)
      rcases h2 rc hrc hna with h | h
      · exact (nope h).elim
      · rcases dstages_still h1 rc h with h | h
        · exact (nope (h3 _ h)).elim
        · exact h
    unfold still at hstill
    simp only [p1, Bool.not_true, Bool.false_or] at hstill
    have finish : ∀ (v' : Value) (w' : World) (ρ' : Emb), VR ρ' rc.val v' → HR P ρ' A w' → Ext A0.next ρ A w ρ' A w' → (∀ s, s ∈ RD → laysR s → s ≠ rc → ρ s.heap.next = none → ρ' s.heap.next = none) → K (a.put o.dst v') w' :=
      fun v' w' ρ' q1 q2 q3 q4 => hK _ _ ρ' (by rw [← o1]; exact inv.listed g hrc hlt hbeh hput q1 q2 q3 q4)
    have simple : (∃ v', (execOp a.eval o).run P w = .ok (.value v') w ∧ VR ρ rc.val v') → o.wpIn (W r) n P a w K Q := fun ⟨v', q1, q2⟩ => by
      refine ⟨fun _ _ => trivial, ?_⟩
      rw [Oper.semAt_eq _ _ _ hnd, q1]
      exact finish v' w ρ q2 inv.heap (.refl _ _ _ _) fun _ _ _ _ h => h
    rw [hf] at p3
    cases hsort : rc.d.sort with
    | acts => exact absurd hsort (acts_false hna)
    | pure =>
      rw [hsort] at hs
      have hA := hs.2 _ _ _ _ p3 A
      exact simple ((hs.1 _ _ _ _ hA).2 ρ w a o inv.heap rfl rfl (hopr _ o5))
    | reads =>
      rw [hsort] at hs hstill
      dsimp only at hstill
      rw [hf] at hstill
      split at hstill
      · rename_i v B hv
        have := veq_eq hstill; subst this
        exact simple ((hs _ _ _ _ hv).2 ρ w a o inv.heap rfl rfl (hopr _ o5))
      · cases hstill
    | lays =>
      rw [hsort] at hs hstill
      dsimp only at hstill
      obtain ⟨ob, hpush, hgo⟩ := hs _ _ _ _ p3
      obtain ⟨v', Wd, r1, r2⟩ := hgo ρ w a o rfl rfl (hopr _ o5)
      have hlay : laysR rc := ⟨p1, hsort⟩
      obtain ⟨y1, y2, y3⟩ := inv.lays1 rc hrc hlay
      have hafter := (AHeap.push_eq hpush).2.2.2.1
      have hget : A.get rc.heap.next = some ob := by
        rw [hafter] at hstill
        split at hstill
        · rename_i o1 o2 h1 h2
          cases h2
          rw [h1, oeq_eq hstill]
        · cases hstill
      obtain ⟨ρ', s1, s2, s3, s4⟩ := inv.heap.bornLaid (y3 hnot) y2 y1 hget r2
      refine ⟨fun _ _ => trivial, ?_⟩
      rw [Oper.semAt_eq _ _ _ hnd, r1]
      refine finish v' Wd ρ' s1 s2 s3 fun s hs' hls hne hno => ?_
      rw [s4 _ ?_]; exact hno
      -- no two lay the same
      have hpw := inv.lays2
      rw [hRD] at hpw hs'
      rw [List.pairwise_append, List.pairwise_cons] at hpw
      rcases List.mem_append.1 hs' with h | h
      · have := hpw.2.2 s h rc (by simp) hls hlay; omega
      · rcases List.mem_cons.1 h with h | h
        · exact absurd h hne
        · have := hpw.2.1.1 s h hlay hls; omega
  · simp only [p2, Bool.false_eq_true, if_false]
    refine ⟨fun _ _ => trivial, hK _ _ ρ ?_⟩
    rw [← o1]
    exact inv.listed g hrc hlt hbeh hput (by rw [p3]; exact undef_rel ρ) inv.heap (.refl _ _ _ _) fun _ _ _ _ h => h

end
end Go.AI

/- Regions whose order is open: effects; the whole. -/
namespace Go.AI

section
variable {P : Program} {N : Nat}
variable {c : Ctx} {ops : Array Oper} {can : List DOp} {env0 : Env} {A0 : AHeap} {ρ0 : Emb} {w0 : World} {a0 : Act} {envF : Env} {AF : AHeap}
  {L : Array Bool} {a : Act} {w : World} {ρ : Emb} {done : List DOp} {zs : List (DOp × List DOp)} {RD : List DRec} {env : Env} {A : AHeap}

/-- An effect is carried out. -/
theorem Inv.effect (hc : CtxOK P c) {e : DOp} {ds : List DOp} {rest : List (DOp × List DOp)} (inv : Inv P N c ops can env0 A0 ρ0 w0 a0 envF AF L a w ρ done ((e, ds) :: rest) RD env A) (g : Rg P N ops can) (hready : e.i ∈ Region.ready .any ops L)
    {r : Option Nat} {n : Nat} {K : Act → World → Prop} {Q : Exit → Act → World → Prop}
    (hK : ∀ a' w' ρ' env' A' RD', Inv P N c ops can env0 A0 ρ0 w0 a0 envF AF (L.setIfInBounds e.i true) a' w' ρ' (done ++ e :: ds) rest RD' env' A' → K a' w') : wpOpIn (W r) n P ops Q e.i K a w := by
  have hec : e ∈ can := by rw [inv.split]; simp [joined]
  obtain ⟨hnot, hlt, hbeh⟩ := g.behind inv.down hec hready
  obtain ⟨ze1, ze2⟩ := inv.zsok _ (List.mem_cons_self ..)
  dsimp only at ze1 ze2
  obtain ⟨prev, rs, k1, k2, k3⟩ := inv.chk
  simp only [dstages, Bool.cond_eq_ite] at k1
  split at k1
  case isFalse => cases k1
  rename_i hall
  cases hde : drun c e env A with
  | none => simp [hde] at k1
  | some x1 =>
  obtain ⟨re, env1, A1⟩ := x1
  simp only [hde] at k1
  cases hds : druns c ds env1 A1 with
  | none => simp [hds] at k1
  | some x2 =>
  obtain ⟨more, env2, A2⟩ := x2
  simp only [hds] at k1
  obtain ⟨d1, d2, d3, d4, d5, d6⟩ := drun_some hde
  obtain ⟨o, ho, hdop⟩ := g.op _ hec
  obtain ⟨-, o1, o2, -, o3, o4, o5, o6⟩ := dop_some hdop
  have hcan : can = done ++ e :: (ds ++ joined rest) := inv.split
  have hord := g.ord
  rw [hcan, List.pairwise_append, List.pairwise_cons] at hord
  obtain ⟨-, ⟨ord2, -⟩, ord3⟩ := hord
  have hRDe : ∀ s, s ∈ RD → s.d.i ≠ e.i ∧ s.d.before.testBit e.i = false := fun s hs => ord3 s.d (inv.mem_done hs) e (by simp)
  have hrd : ∀ t, t < N → t ∈ e.reads → ∃ v', a.tmps[t]? = some v' ∧ VR ρ (env.get (dt N) t) v' := fun t ht hm =>
    inv.reads g hec hnot hbeh inv.run (fun x hx => by rw [inv.split]; simp [hx]) (fun s hs => ⟨hs, hRDe s hs⟩) (fun s hs => .inl hs) ht hm
  have hopr : OpR ρ N env a o.op.operands.toList := fun y hy v hv => aeval_rel hv fun t et ht => by
    subst et
    obtain ⟨v', q1, q2⟩ := hrd t ht (o5 t (tmpsOf_mem hy))
    have : a.eval (.tmp t) = v' := by simp [Act.eval, Array.getD_eq_getD_getElem?, q1]
    rw [this]; exact q2
  have hw : Region.wanted o (yielded ops a.tmps) = e.guard env := wanted_iff o3 fun j want p t h1 h2 h3 ht => hrd t ht (o6 j want p t h1 (by simpa using h2) h3)
  have hmap : more.map (·.d) = ds := druns_map _ hds
  have hrun' : druns c (done ++ e :: ds) env0 A0 = some (RD ++ re :: more, env2, A2) := by
    refine druns_append _ _ inv.run ?_
    simp only [druns, hde, hds]
  have hmore : ∀ s, s ∈ more → s.d ∈ ds := fun s hs => by rw [← hmap]; exact List.mem_map_of_mem hs
  -- the invariant, whatever the effect did
  have main : ∀ (v' : Value) (w' : World) (ρ' : Emb), VR ρ' re.val v' → HR P ρ' A1 w' → Ext A.next ρ A w ρ' A1 w' → K (a.put e.dst v') w' := by
    intro v' w' ρ' hv hh hext
    obtain ⟨g1, g2, g3⟩ := druns_grow (P := P) (N := N) ds (fun x hx => ⟨ze2 x hx, by
      obtain ⟨ox, -, hdx⟩ := g.op x (by rw [hcan]; simp [hx])
      exact ⟨ox, (dop_some hdx).2.2.2.2.2.1⟩⟩) hh.top hds
    have hdom : ∀ i l, ρ' i = some l → i < A1.next := fun i l h => (hh.dom i l h).1
    have hext2 : Ext A.next ρ A w ρ' A2 w' := hext.grow hdom g1
    refine hK _ _ ρ' env2 A2 (RD ++ re :: more) ⟨by rw [hcan]; simp, hrun', ⟨e.before, _, k1, ?_, fun j hj => ⟨e, by simp, ze1, hj⟩⟩, fun z hz => inv.zsok z (by simp [hz]), fun x hx hin => ?_, fun x hx ha => ?_, fun x hx hin j hj => ?_,
      hh.grow g1, inv.ext.trans hext2 (by have := inv.ext.next; omega), ?_, ?_, ?_, ?_, by simpa using inv.size, (put_defers ..).trans inv.defers⟩
    · -- the records that are carried on
      intro s hs hna
      rcases List.mem_append.1 hs with hs | hs
      · rcases k2 s hs hna with ⟨x, x1, x2, x3⟩ | h
        · exact .inl ⟨x, by simp [x1], x2, x3⟩
        · cases hp : prev.testBit s.d.i with
          | true => obtain ⟨x, x1, x2, x3⟩ := k3 _ hp; exact .inl ⟨x, by simp [x1], x2, x3⟩
          | false => exact .inr (by simp [h, hp])
      · rcases List.mem_cons.1 hs with rfl | hs
        · rw [d1, ze1] at hna; cases hna
        · exact .inr (by simp [hs])
    · -- to do
      rcases (In.set hlt _).1 hin with h | h
      · exact (ord2 x (by simp [hx])).1 h.symm
      · exact inv.todo x (by simp [joined, hx]) h
    · -- effects
      rcases List.mem_append.1 hx with h | h
      · exact (In.set hlt _).2 (.inr (inv.acts x h ha))
      · rcases List.mem_cons.1 h with rfl | h
        · exact (In.set hlt _).2 (.inl rfl)
        · rw [ze2 x h] at ha; cases ha
    · refine (In.set hlt _).2 (.inr ?_)
      rcases (In.set hlt _).1 hin with h | h
      · rw [g.uniq hx hec h] at hj; exact hbeh j hj
      · exact inv.down x hx h j hj
    · -- the temporaries
      rw [show (a.put e.dst v').tmps.size = a.tmps.size by cases e.dst <;> simp [Act.put]]; exact inv.tsize
    · intro t ht
      obtain ⟨u, q1, q2, q3⟩ := inv.tmps t ht
      have hnm : ∀ s, s ∈ more → ¬ In (L.setIfInBounds e.i true) s.d.i := fun s hs hin => by
        have hsd := hmore s hs
        rcases (In.set hlt _).1 hin with h | h
        · exact (ord2 s.d (by simp [hsd])).1 h.symm
        · exact inv.todo s.d (by simp [joined, hsd]) h
      by_cases hd : e.dst = some t
      · refine ⟨v', ?_, fun s hs hds' hin => ?_, fun hall => absurd ((In.set hlt _).2 (.inl rfl)) (by have := hall re (by simp) (by rw [d1]; exact hd); rwa [d1] at this)⟩
        · rw [hd]; simp [Act.put, inv.tsize, ht]
        · rcases List.mem_append.1 hs with hs | hs
          · rcases g.tidy e hec t hd s.d (inv.mem_can hs) with h | ⟨h, -⟩
            · exact absurd h (hRDe s hs).1
            · exact absurd hds' h
          · rcases List.mem_cons.1 hs with rfl | hs
            · exact hv
            · exact absurd hin (hnm s hs)
      · refine ⟨u, ?_, fun s hs hds' hin => ?_, fun hall => (q3 fun s hs hds' hin => hall s (by simp [hs]) hds' ((In.set hlt _).2 (.inr hin))).mono hext.sub⟩
        · cases hde' : e.dst with
          | none => exact q1
          | some t0 => simp only [Act.put]; rw [Array.getElem?_setIfInBounds_ne (fun h => hd (by rw [hde', h]))]; exact q1
        · rcases List.mem_append.1 hs with hs | hs
          · rcases (In.set hlt _).1 hin with h | h
            · exact absurd h (hRDe s hs).1
            · exact (q2 s hs hds' h).mono hext.sub
          · rcases List.mem_cons.1 hs with rfl | hs
            · rw [d1] at hds'; exact absurd hds' hd
            · exact absurd hin (hnm s hs)
    · -- what is laid
      intro s hs hlay
      have n1 := hext.next
      have n2 := g1.next
      have n3 := inv.ext.next
      rcases List.mem_append.1 hs with hs | hs
      · obtain ⟨l1, l2, l3⟩ := inv.lays1 s hs hlay
        exact ⟨l1, by omega, fun hnin => hext.old _ l2 (l3 fun hin => hnin ((In.set hlt _).2 (.inr hin)))⟩
      · rcases List.mem_cons.1 hs with rfl | hs
        · have := hlay.2; rw [d1, acts_true ze1] at this; cases this
        · obtain ⟨l1, l2⟩ := g2 s hs hlay
          refine ⟨by omega, l2, fun _ => ?_⟩
          cases hx : ρ' s.heap.next with
          | none => rfl
          | some l => have := hdom _ l hx; omega
    · rw [List.pairwise_append, List.pairwise_cons]
      have nolay : ¬ laysR re := fun hlay => by have := hlay.2; rw [d1, acts_true ze1] at this; cases this
      refine ⟨inv.lays2, ⟨fun s _ h => absurd h nolay, g3⟩, fun s hs s' hs' h h' => ?_⟩
      rcases List.mem_cons.1 hs' with rfl | hs'
      · exact absurd h' nolay
      · have := (inv.lays1 s hs h).2.1
        have := (g2 s' hs' h').1
        have := hext.next
        omega
  unfold wpOpIn
  simp only [ho, hw]
  rcases d6 with ⟨p1, p2, p3⟩ | ⟨p1, p2, p3, p4⟩
  · simp only [p2, if_true]
    refine aoper_acts hc o4 env A re.val A1 p3 ρ w a K Q inv.heap hopr fun v' w' ρ' q1 q2 q3 => ?_
    rw [← o1]; exact main v' w' ρ' q1 q2 q3
  · simp only [p2, Bool.false_eq_true, if_false]
    subst p4
    refine ⟨fun _ _ => trivial, ?_⟩
    rw [← o1]; exact main undef w ρ (by rw [p3]; exact undef_rel ρ) inv.heap (.refl _ _ _ _)

/-- How many are not listed. -/
def left (L : Array Bool) : Nat := L.toList.countP (fun b => !b)

theorem left_set {L : Array Bool} {i : Nat} (h : L.getD i true = false) : left (L.setIfInBounds i true) + 1 = left L := by
  have hlt := (not_in h).2
  have hv : L.toList[i]? = some false := by
    simp [Array.getD_eq_getD_getElem?, hlt] at h
    simp [hlt, h]
  unfold left
  rw [Array.toList_setIfInBounds]
  generalize L.toList = l at hv
  clear h hlt
  induction l generalizing i with
  | nil => simp at hv
  | cons b l ih =>
    cases i with
    | zero => simp at hv; subst hv; simp
    | succ i =>
      have := ih (i := i) (by simpa using hv)
      simp only [List.set_cons_succ, List.countP_cons]; omega

theorem left_zero {L : Array Bool} (h : left L = 0) (md : Region.Mode) (ops : Array Oper) : Region.ready md ops L = [] := by
  apply List.eq_nil_iff_forall_not_mem.2
  intro i hi
  have := left_set (mem_ready.1 hi).1
  omega

/-- Nobody is left who could not come up. -/
theorem Rg.all (g : Rg P N ops can) (hs : L.size = ops.size) (h : Region.ready .any ops L = []) : ∀ i, i < ops.size → In L i := by
  intro i
  induction i using Nat.strongRecOn with
  | _ i ih =>
    intro hi
    by_cases hin : In L i
    · exact hin
    · exfalso
      have ho : ops[i]? = some ops[i] := Array.getElem?_eq_getElem hi
      have : i ∈ Region.ready .any ops L := mem_ready.2 ⟨of_not_in (by omega) hin, _, ho, fun e he hb => by
        have := g.edge i _ ho e he hb
        exact ih e.on this (by omega)⟩
      rw [h] at this; cases this

theorem Inv.go (hc : CtxOK P c) (g : Rg P N ops can) {r : Option Nat} {n : Nat} {Q : Exit → Act → World → Prop}
    (hQ : ∀ a' w' ρ', ERel ρ' N envF a'.tmps → a'.defers = a0.defers → HR P ρ' AF w' → Ext A0.next ρ0 A0 w0 ρ' AF w' → Q .normal a' w') :
    ∀ (fuel : Nat) (L : Array Bool) (a : Act) (w : World) (ρ : Emb) (done : List DOp) (zs : List (DOp × List DOp)) (RD : List DRec) (env : Env) (A : AHeap),
      Inv P N c ops can env0 A0 ρ0 w0 a0 envF AF L a w ρ done zs RD env A → left L ≤ fuel → wpAnyIn (W r) n P .any ops Q fuel L a w := by
  have fin : ∀ (L : Array Bool) (a : Act) (w : World) (ρ : Emb) (done : List DOp) (zs : List (DOp × List DOp)) (RD : List DRec) (env : Env) (A : AHeap),
      Inv P N c ops can env0 A0 ρ0 w0 a0 envF AF L a w ρ done zs RD env A → Region.ready .any ops L = [] → Q .normal a w := by
    intro L a w ρ done zs RD env A inv hnil
    have hall : ∀ x, x ∈ can → In L x.i := fun x hx => by
      obtain ⟨o, ho, -⟩ := g.op x hx
      exact g.all inv.size hnil _ (Array.getElem?_eq_some_iff.1 ho).1
    cases zs with
    | cons z rest =>
      obtain ⟨e, ds⟩ := z
      exact absurd (hall e (by rw [inv.split]; simp [joined])) (inv.todo e (by simp [joined]))
    | nil =>
      obtain ⟨prev, rs, k1, -⟩ := inv.chk
      simp only [dstages, Bool.cond_eq_ite] at k1
      split at k1
      · simp only [Option.some.injEq, Prod.mk.injEq] at k1
        obtain ⟨rfl, rfl⟩ := k1
        refine hQ a w ρ ⟨g.hN, inv.tsize, fun t ht => ?_⟩ inv.defers inv.heap inv.ext
        obtain ⟨v', q1, q2, q3⟩ := inv.tmps t ht
        refine ⟨v', q1, ?_⟩
        rcases druns_env g.hN ht done (fun x hx => g.put (by rw [inv.split]; simp [hx])) inv.run with ⟨s, s1, s2, s3⟩ | ⟨s1, s2⟩
        · rw [s3]; exact q2 s s1 s2 (hall _ (inv.mem_can s1))
        · rw [s2]; exact q3 fun s hs hd => absurd hd (s1 s hs)
      · cases k1
  intro fuel
  induction fuel with
  | zero =>
    intro L a w ρ done zs RD env A inv hl
    have hnil := left_zero (L := L) (by omega) .any ops
    exact ⟨hnil, fin _ _ _ _ _ _ _ _ _ inv hnil⟩
  | succ fuel ih =>
    intro L a w ρ done zs RD env A inv hl
    refine ⟨fin _ _ _ _ _ _ _ _ _ inv, fun i hi => ?_⟩
    have hset := left_set (mem_ready.1 hi).1
    have hlt : i < ops.size := by
      obtain ⟨-, o, ho, -⟩ := mem_ready.1 hi
      exact (Array.getElem?_eq_some_iff.1 ho).1
    obtain ⟨x, hx, rfl⟩ := g.cov i hlt
    have hx' := hx
    rw [inv.split] at hx'
    rcases List.mem_append.1 hx' with hd | hd
    · exact inv.calm g hd hi fun a' w' ρ' inv' => ih _ _ _ _ _ _ _ _ _ inv' (by omega)
    · cases zs with
      | nil => cases hd
      | cons z rest =>
        obtain ⟨e, ds⟩ := z
        have he := (inv.zsok _ (List.mem_cons_self ..)).1
        have hxe := g.first (tail := ds ++ joined rest) inv.down inv.split he inv.todo hd hi
        subst hxe
        exact inv.effect hc g hi fun a' w' ρ' env' A' RD' inv' => ih _ _ _ _ _ _ _ _ _ inv' (by omega)

end
end Go.AI

/- Regions whose order is open: the region. -/
namespace Go.AI

section
variable {P : Program} {N : Nat}

theorem dops_mem {ops : List Oper} {bs : List Nat} : ∀ (l : List Oper) (i : Nat) {ds : List DOp}, dops P N ops bs i l = some ds → (∀ x, x ∈ ds → ∃ k o, l[k]? = some o ∧ dop P N ops bs (i + k) o = some x)
  | [], i, ds, h => by simp [dops] at h; subst h; intro x hx; cases hx
  | o :: rest, i, ds, h => by
    simp only [dops] at h
    cases hd : dop P N ops bs i o with
    | none => simp [hd] at h
    | some d =>
      simp only [hd] at h
      cases hr : dops P N ops bs (i + 1) rest with
      | none => simp [hr] at h
      | some r =>
        simp only [hr, Option.some.injEq] at h
        subst h
        intro x hx
        rcases List.mem_cons.1 hx with rfl | hx
        · exact ⟨0, o, rfl, hd⟩
        · obtain ⟨k, o', h1, h2⟩ := dops_mem rest (i + 1) hr x hx
          exact ⟨k + 1, o', by simpa using h1, by rw [← h2]; congr 1; omega⟩

theorem stages_mem {ds es : List DOp} : ∀ (n : Nat) (l : List DOp), l ∈ stages ds es n → ∀ x, x ∈ l → x ∈ ds ∧ x.acts = false
  | 0, l, h => by simp [stages] at h
  | n + 1, l, h => by
    intro x hx
    simp only [stages, List.mem_append, List.mem_singleton] at h
    rcases h with h | rfl
    · exact stages_mem n l h x hx
    · simp only [List.mem_filter, Bool.and_eq_true, Bool.not_eq_true'] at hx
      exact ⟨hx.1, hx.2.1⟩

theorem joined_mem : ∀ (zs : List (DOp × List DOp)) (x : DOp), x ∈ joined zs → ∃ z, z ∈ zs ∧ (x = z.1 ∨ x ∈ z.2)
  | [], x, h => by cases h
  | (e, ds) :: rest, x, h => by
    simp only [joined, List.mem_cons, List.mem_append] at h
    rcases h with rfl | h | h
    · exact ⟨_, List.mem_cons_self .., .inl rfl⟩
    · exact ⟨_, List.mem_cons_self .., .inr h⟩
    · obtain ⟨z, h1, h2⟩ := joined_mem rest x h
      exact ⟨z, List.mem_cons_of_mem _ h1, h2⟩

theorem ordered_pairwise : ∀ (l : List DOp), ordered l = true → l.Pairwise fun x y => x.i ≠ y.i ∧ x.before.testBit y.i = false
  | [], _ => .nil
  | x :: l, h => by
    simp only [ordered, Bool.and_eq_true, List.all_eq_true, Bool.not_eq_true'] at h
    exact .cons (fun y hy => ⟨fun e => (by have := (h.1 y hy).1; rw [e, Nat.beq_refl] at this; cases this), (h.1 y hy).2⟩) (ordered_pairwise l h.2)

theorem tidy_spec {ds : List DOp} (h : AI.tidy ds = true) : ∀ w, w ∈ ds → ∀ t, w.dst = some t → ∀ r, r ∈ ds → r.i = w.i ∨ r.dst ≠ some t ∧ (t ∉ r.reads ∨ r.before.testBit w.i = true ∨ w.before.testBit r.i = true) := by
  intro w hw t ht r hr
  have := List.all_eq_true.1 h w hw
  rw [ht] at this
  have := List.all_eq_true.1 this r hr
  simp only [Bool.or_eq_true, Bool.and_eq_true, Bool.not_eq_true', beq_eq_false_iff_ne] at this
  rcases this with h | ⟨h, h'⟩
  · exact .inl (Nat.eq_of_beq_eq_true h)
  · refine .inr ⟨h, ?_⟩
    rcases h' with (h' | h') | h'
    · exact .inl (by simpa using h')
    · exact .inr (.inl h')
    · exact .inr (.inr h')

theorem edged_spec {ops : Array Oper} (h : edged ops.toList = true) : ∀ (i : Nat) (o : Oper), ops[i]? = some o → ∀ e, e ∈ o.after → Region.binds .any e = true → e.on < i := by
  intro i o ho e he hb
  unfold edged at h
  have hm : (o, i) ∈ ops.toList.zipIdx := by
    rw [List.mem_zipIdx_iff_getElem?]; simpa using ho
  have h1 := List.all_eq_true.1 h (o, i) hm
  have h2 := List.all_eq_true.1 h1 e (by simpa using he)
  simp only [hb, Bool.not_true, Bool.false_or] at h2
  exact Nat.le_of_ble_eq_true h2

theorem not_in_replicate (n i : Nat) : ¬ In (Array.replicate n false) i := by
  unfold In; simp only [Array.getD_eq_getD_getElem?, Array.getElem?_replicate]; split <;> simp

theorem left_replicate (n : Nat) : left (Array.replicate n false) ≤ n := by
  unfold left; rw [Array.toList_replicate]; exact Nat.le_trans List.countP_le_length (by simp)

/-- A region whose order is open. -/
theorem adraw_ok (hm : P.follows .mixedOrders = true) {c : Ctx} (hc : CtxOK P c) {ops : Array Oper} {env env' : Env} {A A' : AHeap} (h : adraw P N ops.toList c env A = some (env', A'))
    {ρ : Emb} {w : World} {a : Act} (hh : HR P ρ A w) (he : ERel ρ N env a.tmps) {id : Nat} {r : Option Nat} {n : Nat} {Q : Exit → Act → World → Prop}
    (hQ : ∀ a' w' ρ', ERel ρ' N env' a'.tmps → a'.defers = a.defers → HR P ρ' A' w' → Ext A.next ρ A w ρ' A' w' → Q .normal a' w') : (Code.region id ops true).wpIn (W r) n P Q a w := by
  refine wpIn_region_any hm ?_
  unfold adraw at h
  cases hds : dops P N ops.toList (befores ops.toList) 0 ops.toList with
  | none => simp [hds] at h
  | some ds =>
  simp only [hds] at h
  cases hst : stages ds (ds.filter DOp.acts) ((ds.filter DOp.acts).length + 1) with
  | nil => simp [hst] at h
  | cons s0 rest =>
  simp only [hst, Bool.cond_eq_ite] at h
  split at h
  case isFalse => cases h
  rename_i hchk
  simp only [Bool.and_eq_true] at hchk
  obtain ⟨⟨⟨⟨h1, h2⟩, h3⟩, h4⟩, h5⟩ := hchk
  have hs0 : ∀ x, x ∈ s0 → x ∈ ds ∧ x.acts = false := stages_mem _ _ (by rw [hst]; simp)
  have hzs : ∀ z, z ∈ (ds.filter DOp.acts).zip rest → (z.1 ∈ ds ∧ z.1.acts = true) ∧ ∀ x, x ∈ z.2 → x ∈ ds ∧ x.acts = false := by
    rintro ⟨e, l⟩ hz
    obtain ⟨z1, z2⟩ := List.of_mem_zip hz
    exact ⟨by simpa using z1, stages_mem _ _ (by rw [hst]; simp [z2])⟩
  have hsub : ∀ x, x ∈ s0 ++ joined ((ds.filter DOp.acts).zip rest) → x ∈ ds := fun x hx => by
    rcases List.mem_append.1 hx with hx | hx
    · exact (hs0 x hx).1
    · obtain ⟨z, z1, z2⟩ := joined_mem _ _ hx
      rcases z2 with rfl | z2
      · exact (hzs z z1).1.1
      · exact ((hzs z z1).2 x z2).1
  have hop : ∀ x, x ∈ ds → ∃ o, ops[x.i]? = some o ∧ dop P N ops.toList (befores ops.toList) x.i o = some x := fun x hx => by
    obtain ⟨k, o, q1, q2⟩ := dops_mem _ _ hds x hx
    simp only [Nat.zero_add] at q2
    have hi := (dop_some q2).1
    rw [hi]
    exact ⟨o, by simpa using q1, q2⟩
  have ht := tidy_spec h2
  have g : Rg P N ops (s0 ++ joined ((ds.filter DOp.acts).zip rest)) := {
    hN := he.1
    op := fun x hx => hop x (hsub x hx)
    cov := fun i hi => by
      have := List.all_eq_true.1 h5 i (by simpa using hi)
      obtain ⟨x, x1, x2⟩ := List.any_eq_true.1 this
      exact ⟨x, x1, Nat.eq_of_beq_eq_true x2⟩
    tidy := fun w hw t e r hr => ht w (hsub w hw) t e r (hsub r hr)
    ord := ordered_pairwise _ h3
    eag := h4
    edge := edged_spec h1 }
  cases hrun : druns c s0 env A with
  | none => simp [hrun] at h
  | some y =>
  obtain ⟨rs, env1, A1⟩ := y
  simp only [hrun] at h
  have hh' : HR P ρ A { w with drawn := w.drawn + 1 } := hh.congr rfl
  obtain ⟨g1, g2, g3⟩ := druns_grow (P := P) (N := N) s0 (fun x hx => ⟨(hs0 x hx).2, by
    obtain ⟨o, -, hd⟩ := hop x (hs0 x hx).1
    exact ⟨o, (dop_some hd).2.2.2.2.2.1⟩⟩) hh.top hrun
  have hmem : ∀ s, s ∈ rs → s.d ∈ s0 := fun s hs => by rw [← druns_map _ hrun]; exact List.mem_map_of_mem hs
  have inv : Inv P N c ops (s0 ++ joined ((ds.filter DOp.acts).zip rest)) env A ρ { w with drawn := w.drawn + 1 } a env' A' (Array.replicate ops.size false) a { w with drawn := w.drawn + 1 } ρ s0 ((ds.filter DOp.acts).zip rest) rs env1 A1 := {
    split := rfl
    run := hrun
    chk := ⟨0, rs, h, fun s hs _ => .inr hs, fun j hj => by simp at hj⟩
    zsok := fun z hz => ⟨(hzs z hz).1.2, fun d hd => ((hzs z hz).2 d hd).2⟩
    todo := fun x _ => not_in_replicate _ _
    acts := fun x hx ha => by rw [(hs0 x hx).2] at ha; cases ha
    down := fun x _ hin => absurd hin (not_in_replicate _ _)
    heap := hh'.grow g1
    ext := (Ext.refl A.next ρ A _).grow (fun i l e => (hh.dom i l e).1) g1
    tsize := he.2.1
    tmps := fun t ht => by
      obtain ⟨v', q1, q2⟩ := he.2.2 t ht
      exact ⟨v', q1, fun s _ _ hin => absurd hin (not_in_replicate _ _), fun _ => q2⟩
    lays1 := fun s hs hlay => by
      obtain ⟨l1, l2⟩ := g2 s hs hlay
      refine ⟨l1, l2, fun _ => ?_⟩
      cases hx : ρ s.heap.next with
      | none => rfl
      | some l => have := (hh.dom _ l hx).1; omega
    lays2 := g3
    size := by simp
    defers := rfl }
  refine Inv.go hc g (fun a' w' ρ' q1 q2 q3 q4 => hQ a' w' ρ' q1 q2 q3 ?_) ops.size _ _ _ _ _ _ _ _ _ inv (left_replicate _)
  exact ((Ext.refl A.next ρ A w).congr (w₂ := { w with drawn := w.drawn + 1 }) rfl rfl rfl rfl).trans q4 (Nat.le_refl _)

end
end Go.AI
