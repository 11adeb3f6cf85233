/- Proved: a reading with several outcomes is the model's; under the conditions that its theorems name. -/
import Derived.Test.YtaadikldoljdaaaGreatAiCode
import Derived.Lib.Bytealg

/- A reading with several outcomes: where a range over a map may go on in more than one way. Definitions. -/
namespace Go.AI

abbrev NR := Option (List (Value × AHeap))
abbrev NRes := Option (List (AEx × Env × AHeap))

def nbind {α β : Type} (f : α → Option (List β)) : List α → Option (List β)
  | [] => some []
  | x :: l => match f x with
    | none => none
    | some a => match nbind f l with
      | none => none
      | some b => some (a ++ b)

def single {α : Type} : Option (List α) → Option α
  | some [x] => some x
  | _ => none

def ofOne {α : Type} : Option α → Option (List α)
  | some x => some [x]
  | none => none

structure NCtx where
  call : FuncId → List Value → AHeap → NR
  round : Nat → List Value → AHeap → NR
  rounds : Nat
  fn : FuncId
  around : Option Nat

/-- Where there is but one outcome. -/
def NCtx.det (c : NCtx) : Ctx := { call := fun f args A => single (c.call f args A), round := fun l args A => single (c.round l args A), rounds := c.rounds, fn := c.fn, around := c.around }

/-- A step over a map, whichever entry comes. -/
def nnext (it : Value) (A : AHeap) : NR := match iterAt it A with
  | some (b, .miter m since seen last) => match mapAt A m with
    | some (es, clock) => bif !seen.isEmpty && !es.isEmpty && es.all (fun e => Nat.ble last e.born) then none else
      match es.filter fun e => !seen.contains e.born with
      | [] => none
      | e0 :: rest => bif (e0 :: rest).all (fun e => Nat.blt e.born since) then
          some ((e0 :: rest).map fun e => (.tuple #[.bool true, e.key, e.val], A.put b (some (.miter m since (seen ++ [e.born]) clock)))) else none
    | none => none
  | _ => none

def ncallVal (c : NCtx) (f : Value) (args : List Value) (A : AHeap) : NR := match f with
  | .func (.func f) first captured => c.call f (first.toList ++ args ++ captured.toList) A
  | .func (.yield l) first _ => c.round l (first.toList ++ args) A
  | _ => none

def ncallOp (N : Nat) (x : Operand) (args : List Operand) : NCtx → Env → AHeap → NR := fun c env A =>
  match aeval N x env with
  | some f => match aevals N args env with
    | some vs => ncallVal c f vs A
    | none => none
  | none => none

def nnextOp (N : Nat) (x : Operand) : NCtx → Env → AHeap → NR := fun _ env A =>
  match aeval N x env with
  | some v => match anext false v A with
    | some r => some [r]
    | none => nnext v A
  | none => none

def noper (P : Program) (N : Nat) (o : Oper) : Option (NCtx → Env → AHeap → NR) := match o.op with
  | .call { callee := .value x, args, .. } => some (ncallOp N x args.toList)
  | .next x false => some (nnextOp N x)
  | op => match aop P N op o.type with
    | some (_, f) => some fun _ env A => ofOne (f env A)
    | none => none

abbrev NStep := NCtx → Env → AHeap → Option (List (Env × AHeap))

def nguarded (g : Env → Bool) (f : NCtx → Env → AHeap → NR) (put : Value → Env → Option Env) (k : NStep) : NStep :=
  fun c env A => bif g env then
    (match f c env A with
    | some outs => nbind (fun o => match put o.1 env with
      | some env => k c env o.2
      | none => none) outs
    | none => none)
  else match put (.tuple #[]) env with
    | some env => k c env A
    | none => none

def nseq (P : Program) (N : Nat) (ops : List Oper) : List Oper → Cp NStep
  | [] => ⟨fun _ env A => some [(env, A)]⟩
  | o :: rest => match aguard N ops o, noper P N o with
    | some g, some f => ⟨nguarded g f (putDst N o.dst) fun c env A => (nseq P N ops rest).run c env A⟩
    | _, _ => ⟨fun _ _ _ => none⟩

abbrev NRun := NCtx → Env → AHeap → NRes

def nloop (body : Env → AHeap → NRes) (n : Nat) : Env → AHeap → NRes :=
  Nat.rec (motive := fun _ => Env → AHeap → NRes)
    (fun _ _ => none)
    (fun _ ih env A => match body env A with
      | some outs => nbind (fun o => match o.1 with
        | .normal => ih o.2.1 o.2.2
        | ex => some [(ex, o.2.1, o.2.2)]) outs
      | none => none) n

def normals (r : Option (List (Env × AHeap))) : NRes := match r with
  | some outs => some (outs.map fun o => (.normal, o.1, o.2))
  | none => none

/-- How a loop over a function ends. -/
def ended (l : Nat) (env : Env) (A : AHeap) : Option (AEx × Env × AHeap) := match A.get l with
  | some (.loop r) => match r.st with
    | .busy => none
    | _ => match r.pending with
      | none => some (.normal, env, A.put l (some (.loop { r with st := .exhausted })))
      | some .ret => some (.ret, env, A.put l (some (.loop { r with st := .exhausted })))
      | some (.exit id) => some (.exit id, env, A.put l (some (.loop { r with st := .exhausted })))
      | some _ => none
  | _ => none

def ncode (P : Program) (N : Nat) (d : Nat) : Code → Cp NRun :=
  Nat.rec (motive := fun _ => Code → Cp NRun)
    (fun _ => ⟨fun _ _ _ => none⟩)
    (fun _ ih code => match code with
      | .skip | .label _ => ⟨fun _ env A => some [(.normal, env, A)]⟩
      | .region _ ops false => ⟨fun c env A => normals ((nseq P N ops.toList ops.toList).run c env A)⟩
      | .region _ ops true => ⟨fun c env A => normals (ofOne ((fdraw P N ops.toList).run c.det env A))⟩
      | .seq a b => ⟨fun c env A => match (ih a).run c env A with
        | some outs => nbind (fun o => match o.1 with
          | .normal => (ih b).run c o.2.1 o.2.2
          | ex => some [(ex, o.2.1, o.2.2)]) outs
        | none => none⟩
      | .cond x a b => ⟨fun c env A => match aeval N x env with
        | some (.bool t) => bif t then (ih a).run c env A else (ih b).run c env A
        | _ => none⟩
      | .block id a => ⟨fun c env A => match (ih a).run c env A with
        | some outs => some (outs.map fun o => match o.1 with
          | .exit id' => bif Nat.beq id' id then (.normal, o.2.1, o.2.2) else (.exit id', o.2.1, o.2.2)
          | ex => (ex, o.2.1, o.2.2))
        | none => none⟩
      | .loop a => ⟨fun c env A => nloop ((ih a).run c) c.rounds env A⟩
      | .exit id => ⟨fun _ env A => some [(.exit id, env, A)]⟩
      | .ret => ⟨fun _ env A => some [(.ret, env, A)]⟩
      | .rangeFunc x ps assign body => ⟨fun c env A => match aeval N x env with
        | some (.func (.func f) first captured) => match A.push (.loop { st := .ready, pending := none, fn := c.fn, env, params := ps, assign, body }) with
          | none => none
          | some (l, A) => bif !(hasBody P f && c.around.isNone) then none else match c.call f (first.toList ++ [.func (.yield l) #[] #[]] ++ captured.toList) A with
            | none => none
            | some outs => nbind (fun o => ofOne (ended l env o.2)) outs
        | _ => none⟩
      | _ => ⟨fun _ _ _ => none⟩) d

def nbody (P : Program) (fn : Func) (c : Code) : NCtx → List Value → AHeap → NR := fun ctx args A =>
  bif Nat.ble fn.ntmps 256 && Nat.ble args.length fn.ntmps then (match (ncode P fn.ntmps CD c).run ctx (envOf fn.ntmps args) A with
  | some outs => nbind (fun o => match o.1 with
    | .exit _ => none
    | _ => match aresults P fn.ntmps o.2.1 o.2.2 fn.results.toList with
      | some vs => some [(packed vs, o.2.2)]
      | none => none) outs
  | none => none) else none

def nenter (P : Program) (f : FuncId) (ctx : FuncId → NCtx) (args : List Value) (A : AHeap) : NR := match P.funcs[f]? with
  | some fn => match fn.body with
    | some c => nbody P fn c (ctx f) args A
    | none => none
  | none => none

def nround (P : Program) (ctx : FuncId → NCtx) (l : Nat) (args : List Value) (A : AHeap) : NR :=
  match A.get l with
  | some (.loop r) => match P.funcs[r.fn]? with
    | none => none
    | some fn => bif !(Nat.ble fn.ntmps 256) then none else
      match laidIn fn.ntmps r.params.toList args r.env with
      | none => none
      | some env0 => match (ncode P fn.ntmps CD r.assign).run (ctx r.fn) env0 A with
        | some [(.normal, env, A)] => match A.get l with
          | some (.loop r1) => bif r1.st == .ready then
              (match (ncode P fn.ntmps CD r.body).run (ctx r.fn) env (A.put l (some (.loop { r1 with st := .busy }))) with
              | some outs => nbind (fun o => match o.2.2.get l with
                | some (.loop r2) =>
                  (match o.1 with
                  | .normal => some [(.bool true, o.2.2.put l (some (.loop { r2 with st := .ready, pending := none })))]
                  | .ret => some [(.bool false, o.2.2.put l (some (.loop { r2 with st := .done, pending := some .ret })))]
                  | .exit id => some [(.bool false, o.2.2.put l (some (.loop { r2 with st := .done, pending := some (.exit id) })))])
                | _ => none) outs
              | none => none) else none
          | _ => none
        | _ => none
  | _ => none

def ncalls (P : Program) (n : Nat) : (FuncId → List Value → AHeap → NR) × (Nat → List Value → AHeap → NR) :=
  Nat.rec (motive := fun _ => (FuncId → List Value → AHeap → NR) × (Nat → List Value → AHeap → NR))
    (fun _ _ _ => none, fun _ _ _ => none)
    (fun _ ih => (fun f args A => nenter P f (fun fn => { call := ih.1, round := ih.2, rounds := 100000, fn, around := none }) args A,
      fun l args A => nround P (fun fn => { call := ih.1, round := ih.2, rounds := 100000, fn, around := some l }) l args A)) n

def ncall (P : Program) (n : Nat) (f : FuncId) (args : List Value) (A : AHeap) : NR := (ncalls P n).1 f args A

end Go.AI

/- Functions without a body: maps.clone, internal/bytealg.IndexByteString. -/
namespace Go.AI

def cloneF : List Value → AHeap → AR := fun args A => match args with
  | [.iface t (.map (some r))] => match mapAt A r with
    | some (es, c) => match A.push (.map es c) with
      | some (i, A) => some (.iface t (.map (some i)), A)
      | none => none
    | none => none
  | _ => none

def byteAt (c : Nat) : List UInt8 → Nat → Int
  | [], _ => -1
  | b :: l, i => bif Nat.beq b.toNat c then .ofNat i else byteAt c l (Nat.succ i)

def indexByteF : List Value → AHeap → AR := fun args A => match args with
  | [.string s, .int .u8 (.ofNat n)] => bif Nat.blt n 256 then some (.int .i64 (byteAt n s.data.toList 0), A) else none
  | _ => none

section
variable {P : Program}

theorem byteAt_eq (n : Nat) (hn : n < 256) : ∀ (l : List UInt8) (i : Nat), byteAt n l i = if Lib.indexByte l n.toUInt8 = -1 then -1 else Lib.indexByte l n.toUInt8 + i
  | [], i => by simp [byteAt, Lib.indexByte]
  | b :: l, i => by
    have ih := byteAt_eq n hn l (i + 1)
    have hge := Lib.indexByte_ge l n.toUInt8
    have hbeq : Nat.beq b.toNat n = (b == n.toUInt8) := by
      rw [Bool.eq_iff_iff, beq_iff, beq_iff_eq]
      constructor
      · intro h; subst h; simp
      · intro h; subst h; simp; omega
    simp only [byteAt, Lib.indexByte, hbeq, Bool.cond_eq_ite]
    by_cases h : (b == n.toUInt8) = true
    · simp [h]
    · simp only [h, Bool.false_eq_true, if_false]
      rw [show Nat.succ i = i + 1 from rfl, ih]
      by_cases h2 : Lib.indexByte l n.toUInt8 = -1
      · simp [h2]
      · have h3 : ¬ ((Lib.indexByte l n.toUInt8 == -1) = true) := by simpa using h2
        rw [if_neg h2, if_neg h3, if_neg (by omega)]; omega

theorem clone_ok {f : FuncId} {fn : Func} (hf : P.funcs[f]? = some fn) (hname : (fn.name == "runtime.NumGoroutine") = false) (hb : fn.body.isNone = true) (hn : Extern.findNext fn = none) (he : Extern.find fn = some Extern.MapsClone.clone)
    (args : List Value) (A : AHeap) (v : Value) (A' : AHeap) (h : cloneF args A = some (v, A')) (ρ : Emb) (w : World) (args' : List Value) (hh : HR P ρ A w) (hv : VRs ρ args args') : CallOK P ρ A w f args' v A' := by
  right
  have hnb : fn.body = none := by simpa using hb
  refine ⟨by unfold hasBody; rw [hf]; simp [hnb], ?_⟩
  unfold cloneF at h
  split at h
  · rename_i t r
    split at h
    · rename_i es c hm
      split at h
      · rename_i i B hp
        cases h
        cases hv with
        | cons h1 h2 =>
        cases h2
        cases h1 with
        | iface h1 =>
        cases h1 with
        | @map _ l hl =>
        obtain ⟨es', g0, g1, g2⟩ := hh.map hl hm
        obtain ⟨q1, q2, q3⟩ := hh.push (o' := .map es' c) (l := ⟨w.heap.size, 0, 0, 0⟩) hp rfl (.map g2)
        have hget : (getObj l.blk).run P w = .ok (.map es' c) w := getObj_run g1 (fun _ _ _ h => by cases h)
        refine ⟨.iface t (.map (some w.heap.size)), w.alloc (.map es' c), ?_, _, .iface (.map (l := ⟨w.heap.size, 0, 0, 0⟩) (by simp)), q2, q3⟩
        rw [run_callFunc_extern hf hname hb hn he]
        have e : Extern.MapsClone.clone ⟨[.iface t (.map (some l.blk))]⟩ = (do
            match ← getObj l.blk with
            | .map entries clock => pure (.iface t (.map (some (← newObj (.map entries clock)))))
            | _ => stuck "maps.clone: a map expected") := rfl
        rw [e, Sem.run_bind, hget]
        simp only [Result.andThen_ok, Sem.run_bind, run_newObj_alloc, Sem.run_pure]
      · cases h
    · cases h
  · cases h

theorem indexByte_ok {f : FuncId} {fn : Func} (hf : P.funcs[f]? = some fn) (hname : (fn.name == "runtime.NumGoroutine") = false) (hb : fn.body.isNone = true) (hn : Extern.findNext fn = none) (he : Extern.find fn = some Extern.BytealgIndexByte.indexByte)
    (args : List Value) (A : AHeap) (v : Value) (A' : AHeap) (h : indexByteF args A = some (v, A')) (ρ : Emb) (w : World) (args' : List Value) (hh : HR P ρ A w) (hv : VRs ρ args args') : CallOK P ρ A w f args' v A' := by
  right
  have hnb : fn.body = none := by simpa using hb
  refine ⟨by unfold hasBody; rw [hf]; simp [hnb], ?_⟩
  unfold indexByteF at h
  split at h
  · rename_i s n
    simp only [Bool.cond_eq_ite, blt_iff] at h
    split at h
    · rename_i hn256
      cases h
      cases hv with
      | cons h1 h2 =>
      cases h1
      cases h2 with
      | cons h2 h3 =>
      cases h2
      cases h3
      have hrun := Lib.run_indexByteString (P := P) s (n : Int) w
      have e1 : ((n : Int).toNat.toUInt8) = n.toUInt8 := by simp
      rw [e1] at hrun
      have e2 : byteAt n s.data.toList 0 = Lib.indexByte s.data.toList n.toUInt8 := by
        rw [byteAt_eq n hn256]
        by_cases h : Lib.indexByte s.data.toList n.toUInt8 = -1
        · simp [h]
        · simp [h]
      refine ⟨_, w, ?_, ρ, .int _ _, hh, .refl _ _ _ _⟩
      rw [run_callFunc_extern hf hname hb hn he, e2]
      have hrun' : (Extern.BytealgIndexByte.indexByte ⟨[.string s, .int .u8 (Int.ofNat n)]⟩).run P w = .ok (.int .i64 (Lib.indexByte s.data.toList n.toUInt8)) w := hrun
      rw [hrun']; rfl
    · cases h
  · cases h

end
end Go.AI

/- A reading with several outcomes is sound: one of them comes. -/
namespace Go.AI

theorem nbind_some {α β : Type} {f : α → Option (List β)} : ∀ {l : List α} {r : List β}, nbind f l = some r → ∀ x, x ∈ l → ∃ a, f x = some a ∧ ∀ y, y ∈ a → y ∈ r
  | [], r, h, x, hx => by cases hx
  | z :: l, r, h, x, hx => by
    simp only [nbind] at h
    cases hf : f z with
    | none => rw [hf] at h; cases h
    | some a =>
      rw [hf] at h
      dsimp only at h
      cases hl : nbind f l with
      | none => rw [hl] at h; cases h
      | some b =>
        rw [hl] at h
        cases h
        rcases List.mem_cons.1 hx with rfl | hx
        · exact ⟨a, hf, fun y hy => by simp [hy]⟩
        · obtain ⟨a', h1, h2⟩ := nbind_some hl x hx
          exact ⟨a', h1, fun y hy => by simp [h2 y hy]⟩

theorem single_some {α : Type} {l : Option (List α)} {x : α} (h : single l = some x) : l = some [x] := by
  unfold single at h
  split at h
  · cases h; rfl
  · cases h

section
variable {P : Program} {N lo : Nat} {ρ : Emb} {A : AHeap} {w : World}

def NGood (P : Program) (ρ : Emb) (A : AHeap) (w : World) (outs : List (Value × AHeap)) (e : Ending) (w' : World) : Prop := ∃ o, o ∈ outs ∧ Good P ρ A w o.1 o.2 e w'

def NCallOK (P : Program) (ρ : Emb) (A : AHeap) (w : World) (f : FuncId) (args' : List Value) (outs : List (Value × AHeap)) : Prop :=
  (∀ w', (callFunc f ⟨args'⟩).run P w' = .ok (.enter f ⟨args'⟩) w') ∧ Calls P f ⟨args'⟩ w (NGood P ρ A w outs)

structure NCtxOK (P : Program) (c : NCtx) : Prop where
  call : ∀ f args A outs, c.call f args A = some outs → ∀ (ρ : Emb) (w : World) (args' : List Value), HR P ρ A w → VRs ρ args args' → NCallOK P ρ A w f args' outs
  round : ∀ l args A outs, c.round l args A = some outs → ∀ (ρ : Emb) (w : World) (k : Loc) (args' : List Value), HR P ρ A w → ρ l = some k → VRs ρ args args' →
    ∃ (g : FuncId) (tmps : Array Value) (assign body : Code), (Instr.yield k.blk ⟨args'⟩).run P w = .ok (.round k.blk g tmps assign body) w ∧ ∀ n r, RoundIn (W r) n P k.blk g tmps assign body w (NGood P ρ A w outs)

theorem NGood.one {x : Value × AHeap} {e : Ending} {w' : World} (h : NGood P ρ A w [x] e w') : Good P ρ A w x.1 x.2 e w' := by
  obtain ⟨o, h1, h2⟩ := h
  rw [List.mem_singleton] at h1; subst h1; exact h2

theorem NCtxOK.det {c : NCtx} (h : NCtxOK P c) : CtxOK P c.det where
  call := fun f args A v A' hc ρ w args' hh hv => by
    have h1 := single_some hc
    obtain ⟨k1, k2⟩ := h.call f args A _ h1 ρ w args' hh hv
    exact .inl ⟨k1, k2.mono fun e w' hg => hg.one⟩
  round := fun l args A v A' hc ρ w k args' hh hl hv => by
    have h1 := single_some hc
    obtain ⟨g, tmps, assign, body, k1, k2⟩ := h.round l args A _ h1 ρ w k args' hh hl hv
    exact ⟨g, tmps, assign, body, k1, fun n r => (k2 n r).mono fun e w' hg => hg.one⟩

def NActS (P : Program) (N : Nat) (r : Option Nat) (n : Nat) (c : NCtx) (o : Oper) (f : NCtx → Env → AHeap → NR) : Prop :=
  ∀ env A outs, f c env A = some outs → ∀ (ρ : Emb) (w : World) (a : Act) (next : Act → World → Prop) (Q : Exit → Act → World → Prop), HR P ρ A w → OpR ρ N env a o.op.operands.toList →
    (∀ x, x ∈ outs → ∀ v' w' ρ', VR ρ' x.1 v' → HR P ρ' x.2 w' → Ext A.next ρ A w ρ' x.2 w' → next (a.put o.dst v') w') → o.wpIn (W r) n P a w next Q

theorem ActS.many {r : Option Nat} {n : Nat} {c : NCtx} {d : Ctx} {o : Oper} {f : Env → AHeap → AR} (h : ActS P N r n d o (fun _ => f)) : NActS P N r n c o (fun _ env A => ofOne (f env A)) := by
  intro env A outs he ρ w a next Q hh hr hk
  cases hf : f env A with
  | none => simp only [hf, ofOne] at he; cases he
  | some x =>
    obtain ⟨v, A'⟩ := x
    simp only [hf, ofOne, Option.some.injEq] at he
    subst he
    exact h env A v A' hf ρ w a next Q hh hr fun v' w' ρ' q1 q2 q3 => hk _ (List.mem_singleton.2 rfl) v' w' ρ' q1 q2 q3

theorem ncallOp_acts {r : Option Nat} {n : Nat} {c : NCtx} (hc : NCtxOK P c) {o : Oper} {x : Operand} {args : Array Operand} {ats : Array TypeId} (ho : o.op = .call { callee := .value x, args, argTypes := ats }) :
    NActS P N r n c o (ncallOp N x args.toList) := by
  intro env A outs he ρ w a next Q hh hr hk
  refine ⟨fun _ _ => trivial, ?_⟩
  rw [Oper.semAt_eq _ _ _ (by intro d; rw [ho]; simp)]
  unfold ncallOp at he
  split at he
  · rename_i f hf
    split at he
    · rename_i vs hvs
      have rf := hr x (by simp [ho, Op.operands, Call.operands]) _ hf
      have rvs := aevals_some hvs (ρ := ρ) (act := a) fun y hy => hr y (by simp [ho, Op.operands, Call.operands]; exact .inr (by simpa using hy))
      have eargs : args.map a.eval = ⟨args.toList.map a.eval⟩ := by apply Array.ext'; simp
      unfold ncallVal at he
      generalize hfv : a.eval x = f' at rf
      split at he
      · rename_i g first captured
        cases rf with
        | @func _ fn' f1 f2 c1 c2 hfn hf1 hc1 =>
        cases hfn
        obtain ⟨h1, h2⟩ := hc.call _ _ _ _ he ρ w (f2 ++ args.toList.map a.eval ++ c2) hh ((hf1.append rvs).append hc1)
        have hrun : (execOp a.eval o).run P w = (callFunc g ⟨f2 ++ args.toList.map a.eval ++ c2⟩).run P w := by
          simp [execOp, ho, resolve, hfv, eargs, Deferred.ofValue, invoke]
        rw [hrun, h1]
        refine ⟨fun h => by simp [W, Fence.wide] at h, CallsIn.mono (callsIn_W h2) ?_⟩
        rintro e w' ⟨y, hy, v', rfl, ρ', q1, q2, q3⟩
        exact hk y hy v' w' ρ' q1 q2 q3
      · rename_i l first captured
        cases rf with
        | @func _ fn' f1 f2 c1 c2 hfn hf1 hc1 =>
        cases hfn with
        | @yield _ k hl =>
        obtain ⟨g, tmps, assign, body, h1, h2⟩ := hc.round _ _ _ _ he ρ w k (f2 ++ args.toList.map a.eval) hh hl (hf1.append rvs)
        have hrun : (execOp a.eval o).run P w = (Instr.yield k.blk ⟨f2 ++ args.toList.map a.eval⟩).run P w := by
          simp [execOp, ho, resolve, hfv, eargs, Deferred.ofValue, invoke]
        rw [hrun, h1]
        refine ⟨fun h => by simp [W, Fence.wide] at h, RoundIn.mono (h2 _ _) ?_⟩
        rintro e w' ⟨y, hy, v', rfl, ρ', q1, q2, q3⟩
        exact hk y hy v' w' ρ' q1 q2 q3
      · cases he
    · cases he
  · cases he

theorem run_next_some {w w0 : World} {r m since last clock i : Nat} {seen : Array Nat} {es left : Array MapEntry} {ty : TypeId} {e : MapEntry} (g1 : (getObj r).run P w = .ok (.mapIter (some m) since seen last) w) (g2 : (getObj m).run P w = .ok (.map es clock) w)
    (hc : (!seen.isEmpty && !es.isEmpty && es.all (fun e => decide (e.born ≥ last))) = false) (hl : es.filter (fun e => !seen.contains e.born) = left) (hb : ∀ x, x ∈ left → x.born < since) (hne : left.size ≠ 0)
    (hch : (choose (.mapNext left.size)).run P w = .ok i w0) (hi : left[i]? = some e)
    (hs : ∀ o, (setObj r o).run P w0 = .ok () { w0 with heap := w0.heap.setIfInBounds r o }) :
    (Instr.next (.pointer (some ⟨r, 0, none⟩)) false ty).run P w = .ok (.tuple #[.bool true, e.key, e.val]) { w0 with heap := w0.heap.setIfInBounds r (.mapIter (some m) since (seen.push e.born) clock) } := by
  have h1 : left.filter (fun x => decide (x.born < since)) = left := by
    apply Array.filter_eq_self.2
    intro x hx; simpa using hb x hx
  have h2 : left.filter (fun x => decide (x.born ≥ since)) = #[] := by
    apply Array.filter_eq_empty_iff.2
    intro x hx; have := hb x hx; simp; omega
  have hemp : left.isEmpty = false := by
    rw [Bool.eq_false_iff]; intro h; exact hne (by simpa using h)
  simp only [Instr.next, Sem.run_bind, g1, g2, Result.andThen_ok, hc, Bool.false_eq_true, if_false, hl, h1, h2, hemp]
  have hsz : ((#[] : Array (Option MapEntry)) ++ (left ++ #[]).map some).size = left.size := by simp
  have hget : ((#[] : Array (Option MapEntry)) ++ (left ++ #[]).map some)[i]? = some (some e) := by simp [hi]
  rw [hsz, hch]
  simp only [Result.andThen_ok, hget, Sem.run_bind, hs, Sem.run_pure]

theorem run_choose_lt {n : Nat} (h : n ≠ 0) (w : World) : ∃ i w0, (choose (.mapNext n)).run P w = .ok i w0 ∧ i < n ∧ w0.heap = w.heap ∧ w0.os = w.os ∧ w0.output = w.output ∧ w0.tape = w.tape := by
  rw [run_choose]
  by_cases hf : (Question.mapNext n).forced = true
  · rw [if_pos hf]; exact ⟨0, w, rfl, by omega, rfl, rfl, rfl, rfl⟩
  · rw [if_neg hf]
    exact ⟨_, _, rfl, Nat.mod_lt _ (by omega), rfl, rfl, rfl, rfl⟩

theorem nnext_acts {r : Option Nat} {n : Nat} {c : NCtx} {o : Oper} {x : Operand} (ho : o.op = .next x false) : NActS P N r n c o (nnextOp N x) := by
  intro env A outs he ρ w a next Q hh hr hk
  unfold nnextOp at he
  cases hx : aeval N x env with
  | none => rw [hx] at he; cases he
  | some v =>
  rw [hx] at he
  dsimp only at he
  cases hd : anext false v A with
  | some y =>
    rw [hd] at he
    cases he
    obtain ⟨u, A'⟩ := y
    have hact := (next_ok (P := P) (N := N) x false o.type).actS (r := r) (n := n) (c := { call := fun _ _ _ => none, round := fun _ _ _ => none, rounds := 0, fn := 0, around := none }) (o := { o with op := .next x false }) (by intro c h; cases h)
    have ho' : ({ o with op := .next x false } : Oper) = o := by rw [← ho]
    rw [ho'] at hact
    exact hact env A u A' (by simp [with1, hx, hd]) ρ w a next Q hh hr fun v' w' ρ' q1 q2 q3 => hk _ (List.mem_singleton.2 rfl) v' w' ρ' q1 q2 q3
  | none =>
  rw [hd] at he
  dsimp only at he
  have rx := hr x (by simp [ho, Op.operands]) _ hx
  have main : ∃ y v' w', y ∈ outs ∧ (Instr.next (a.eval x) false o.type).run P w = .ok v' w' ∧ VR ρ y.1 v' ∧ HR P ρ y.2 w' ∧ Ext A.next ρ A w ρ y.2 w' := by
    generalize a.eval x = x' at rx
    unfold nnext at he
    split at he
    · rename_i b m since seen last hi
      obtain ⟨ad, rfl, h0, h3, rfl, hget⟩ := iterAt_some hi
      obtain ⟨l, hl, rfl⟩ := iter_rel rx h0
      obtain ⟨o', ho', hob⟩ := hh.obj _ _ _ hl hget
      cases hob with
      | @miter _ _ _ _ lm hlm hsh =>
        have g1 := getObj_run (P := P) ho' (by simp)
        rw [hsh]
        split at he
        · rename_i es clock hmap
          obtain ⟨es', _, hm1, hm2⟩ := hh.map hlm hmap
          have g2 := getObj_run (P := P) hm1 (by simp)
          simp only [Bool.cond_eq_ite] at he
          split at he
          · cases he
          · rename_i hns
            have hall : es'.all (fun e => decide (e.born ≥ last)) = es.all (fun e => Nat.ble last e.born) := by
              have := hm2.all (fun b => Nat.ble last b)
              rw [← this]
              rw [← Array.all_toList]
              congr 1; funext e
              rw [Bool.eq_iff_iff, ble_iff]; simp
            have hemp : es'.isEmpty = es.isEmpty := by
              have := hm2.length
              rw [Bool.eq_iff_iff, Array.isEmpty_iff_size_eq_zero, List.isEmpty_iff_length_eq_zero]
              simp at this; omega
            have hseen : seen.toArray.isEmpty = seen.isEmpty := by cases seen <;> rfl
            have hcond : (!seen.toArray.isEmpty && !es'.isEmpty && es'.all (fun e => decide (e.born ≥ last))) = false := by
              rw [hall, hemp, hseen]; simpa using hns
            have hleft : ESR ρ (es.filter fun e => !seen.contains e.born) (es'.filter fun e => !seen.toArray.contains e.born).toList := by
              have := hm2.filter (fun b => !seen.contains b)
              simpa using this
            obtain ⟨left', hl'⟩ : ∃ left', left' = es'.filter fun e => !seen.toArray.contains e.born := ⟨_, rfl⟩
            rw [← hl'] at hleft
            obtain ⟨left, hl2⟩ : ∃ left, left = es.filter fun e => !seen.contains e.born := ⟨_, rfl⟩
            rw [← hl2] at hleft he
            have hlen := hleft.length
            rw [Array.length_toList] at hlen
            have hgo : left ≠ [] ∧ left.all (fun e => Nat.blt e.born since) = true ∧ outs = left.map fun e => (.tuple #[.bool true, e.key, e.val], A.put ad.block (some (.miter m since (seen ++ [e.born]) clock))) := by
              cases left with
              | nil => cases he
              | cons e0 rest =>
                dsimp only at he
                split at he
                · rename_i hbs
                  cases he
                  exact ⟨by simp, hbs, rfl⟩
                · cases he
            obtain ⟨hne, hborn, rfl⟩ := hgo
            have hsz : left'.size ≠ 0 := by rw [hlen]; exact fun h => hne (List.length_eq_zero_iff.1 h)
            obtain ⟨i, w0, hch, hi, e1, e2, e3, e4⟩ := run_choose_lt (P := P) hsz w
            have hil : i < left.length := by omega
            obtain ⟨e', p1, p2, p3, p4, p5⟩ := hleft.get (List.getElem?_eq_getElem hil)
            have hbl : ∀ y, y ∈ left' → y.born < since := by
              intro y hy
              obtain ⟨j, hj, hjy⟩ := List.mem_iff_getElem.1 (show y ∈ left'.toList by simpa using hy)
              have hjl : j < left.length := by rw [← hlen]; simpa using hj
              obtain ⟨y', s1, -, -, s4, -⟩ := hleft.get (List.getElem?_eq_getElem hjl)
              rw [List.getElem?_eq_getElem hj, hjy] at s1
              cases s1
              rw [s4]
              exact blt_iff.1 (List.all_eq_true.1 hborn _ (List.getElem_mem hjl))
            have hset : ∀ ob, (setObj l.blk ob).run P w0 = .ok () { w0 with heap := w0.heap.setIfInBounds l.blk ob } := fun ob => setObj_run (by rw [e1]; exact ho') (by simp)
            have hrun := run_next_some (ty := o.type) g1 g2 hcond hl'.symm hbl hsz hch (by simpa using p1) hset
            have hh0 : HR P ρ A w0 := hh.congr e1
            have ht := hh0.turnIter hl hget (o2 := .miter m since (seen ++ [left[i].born]) clock) (o2' := .mapIter (some lm.blk) since (seen.toArray.push e'.born) clock) (by
              have : seen.toArray.push e'.born = (seen ++ [left[i].born]).toArray := by rw [p4]; simp
              rw [this]; exact .miter hlm hsh)
            refine ⟨_, _, _, List.mem_map.2 ⟨left[i], List.getElem_mem hil, rfl⟩, hrun, .tuple (.cons (.bool _) (.cons (by rw [p3]; exact .of_flat p2) (.cons p5 .nil))), ht.1, ?_⟩
            exact ((Ext.refl A.next ρ A w).congr e1 e2 e3 e4).trans ht.2 (Nat.le_refl _)
        · cases he
    · cases he
  obtain ⟨y, v', w', y1, y2, y3, y4, y5⟩ := main
  refine ⟨fun _ _ => trivial, ?_⟩
  rw [Oper.semAt_eq _ _ _ (by intro d; rw [ho]; simp)]
  have : (execOp a.eval o).run P w = .ok (.value v') w' := by simp [execOp, ho, y2]
  rw [this]
  exact hk y y1 v' w' ρ y3 y4 y5

theorem noper_acts {r : Option Nat} {n : Nat} {c : NCtx} (hc : NCtxOK P c) {o : Oper} {f : NCtx → Env → AHeap → NR} (h : noper P N o = some f) : NActS P N r n c o f := by
  unfold noper at h
  generalize hop : o.op = op at h
  split at h
  · cases h; exact ncallOp_acts hc hop
  · cases h; exact nnext_acts hop
  · subst hop
    split at h
    · rename_i s' f' hf
      cases h
      exact ((aop_ok hf).acts.actS (c := c.det) (aop_noDefer hf)).many
    · cases h

end
end Go.AI

/- A reading with several outcomes is sound: regions, code, calls. -/
namespace Go.AI

section
variable {P : Program} {N lo : Nat} {ρ : Emb} {A : AHeap} {w : World}

/-- A region whose order is fixed. -/
theorem nseq_ok {r : Option Nat} {n : Nat} {c : NCtx} (hc : NCtxOK P c) {ops : Array Oper} {Q : Exit → Act → World → Prop} : ∀ (l : List Oper) (i : Nat), ops.toList.drop i = l → ∀ (env : Env) (outs : List (Env × AHeap)) (A : AHeap) (ρ : Emb) (w : World) (a : Act),
    (nseq P N ops.toList l).run c env A = some outs → HR P ρ A w → ERel ρ N env a.tmps →
    (∀ x, x ∈ outs → ∀ a' w' ρ', ERel ρ' N x.1 a'.tmps → a'.defers = a.defers → HR P ρ' x.2 w' → Ext A.next ρ A w ρ' x.2 w' → Q .normal a' w') → wpOpsIn (W r) n P ops Q ((List.range' i (ops.size - i))) a w
  | [], i, hl, env, outs, A, ρ, w, a, hs, hh, he, hk => by
    have hs' : some [(env, A)] = some outs := hs
    cases hs'
    have : ops.size - i = 0 := by
      have := List.drop_eq_nil_iff.1 hl
      simp at this; omega
    rw [this]
    simpa [wpOpsIn] using hk (env, A) (by simp) a w ρ he rfl hh (.refl _ _ _ _)
  | o :: rest, i, hl, env, outs, A, ρ, w, a, hs, hh, he, hk => by
    have hi : ops[i]? = some o := by
      have := congrArg (·[0]?) hl
      simpa using this
    have hlt : i < ops.size := (Array.getElem?_eq_some_iff.1 hi).1
    have hrest : ops.toList.drop (i + 1) = rest := by rw [← List.tail_drop, hl]; rfl
    rw [show ops.size - i = (ops.size - (i + 1)) + 1 by omega, List.range'_succ]
    rw [wpOpsIn_cons]
    cases hg : aguard N ops.toList o with
    | none => simp only [nseq, hg] at hs; cases hs
    | some g =>
    cases hf : noper P N o with
    | none => simp only [nseq, hg, hf] at hs; cases hs
    | some f =>
    simp only [nseq, hg, hf] at hs
    unfold nguarded at hs
    have hw : Region.wanted o (yielded ops a.tmps) = g env := wanted_iff hg fun j want p t _ _ _ ht => he.2.2 t ht
    unfold wpOpIn
    simp only [hi, hw]
    cases hge : g env with
    | true =>
      simp only [hge, cond_true] at hs
      cases hfr : f c env A with
      | none => rw [hfr] at hs; cases hs
      | some outs1 =>
      rw [hfr] at hs
      dsimp only at hs
      simp only [if_true]
      refine noper_acts hc hf env A outs1 hfr ρ w a _ Q hh (he.opR _) fun x hx v' w' ρ' q1 q2 q3 => ?_
      obtain ⟨outs2, h1, h2⟩ := nbind_some hs x hx
      cases hput : putDst N o.dst x.1 env with
      | none => rw [hput] at h1; cases h1
      | some env1 =>
        rw [hput] at h1
        dsimp only at h1
        refine nseq_ok hc rest (i + 1) hrest env1 outs2 x.2 ρ' w' _ h1 q2 ((he.mono q3.sub).put q1 hput) fun y hy a2 w2 ρ2 p1 p2 p3 p4 => ?_
        exact hk y (h2 y hy) a2 w2 ρ2 p1 (p2.trans (put_defers ..)) p3 (q3.trans p4 q3.next)
    | false =>
      simp only [hge, cond_false] at hs
      simp only [Bool.false_eq_true, if_false]
      cases hput : putDst N o.dst (.tuple #[]) env with
      | none => rw [hput] at hs; cases hs
      | some env1 =>
        rw [hput] at hs
        dsimp only at hs
        refine ⟨fun _ _ => trivial, ?_⟩
        refine nseq_ok hc rest (i + 1) hrest env1 outs A ρ w _ hs hh (he.put (undef_rel ρ) hput) fun y hy a2 w2 ρ2 p1 p2 p3 p4 => ?_
        exact hk y hy a2 w2 ρ2 p1 (p2.trans (put_defers ..)) p3 p4

def NCodeOK (P : Program) (N lo : Nat) (r : Option Nat) (code : Code) (f : Env → AHeap → NRes) : Prop :=
  ∀ env A outs, f env A = some outs → ∀ (ρ : Emb) (w : World) (a : Act) (n : Nat) (Q : Exit → Act → World → Prop), HR P ρ A w → ERel ρ N env a.tmps → Marks lo ρ A w a.defers →
    (∀ x, x ∈ outs → ∀ a' w' ρ', ERel ρ' N x.2.1 a'.tmps → Marks lo ρ' x.2.2 w' a'.defers → HR P ρ' x.2.2 w' → Ext A.next ρ A w ρ' x.2.2 w' → Q (exitOf x.1) a' w') → code.wpIn (W r) n P Q a w

theorem nloop_ok {r : Option Nat} {code : Code} {f : Env → AHeap → NRes} (hf : NCodeOK P N lo r code f) {n : Nat} {Q : Exit → Act → World → Prop} : ∀ (m : Nat) (env : Env) (A : AHeap) (outs : List (AEx × Env × AHeap)), nloop f m env A = some outs →
    ∀ (ρ : Emb) (w : World) (a : Act), HR P ρ A w → ERel ρ N env a.tmps → Marks lo ρ A w a.defers →
    (∀ x, x ∈ outs → ∀ a' w' ρ', ERel ρ' N x.2.1 a'.tmps → Marks lo ρ' x.2.2 w' a'.defers → HR P ρ' x.2.2 w' → Ext A.next ρ A w ρ' x.2.2 w' → Q (exitOf x.1) a' w') → Code.roundsIn (W r) n P code Q m a w := by
  intro m
  induction m with
  | zero => intro env A outs h; cases h
  | succ m ih =>
    intro env A outs h ρ w a hh he hm hQ
    have h' : (match f env A with | some outs => nbind (fun o => match o.1 with | .normal => nloop f m o.2.1 o.2.2 | ex => some [(ex, o.2.1, o.2.2)]) outs | none => none) = some outs := h
    rw [roundsIn_succ]
    cases hx : f env A with
    | none => rw [hx] at h'; cases h'
    | some outs1 =>
      rw [hx] at h'
      dsimp only at h'
      refine hf env A outs1 hx ρ w a n _ hh he hm fun x hxm a1 w1 ρ1 q1 q2 q3 q4 => ?_
      obtain ⟨outs2, h1, h2⟩ := nbind_some h' x hxm
      obtain ⟨ex1, env1, A1⟩ := x
      cases ex1 with
      | normal =>
        exact ih env1 A1 outs2 h1 ρ1 w1 a1 q3 q1 q2 fun y hy a' w' ρ' p1 p2 p3 p4 => hQ y (h2 y hy) a' w' ρ' p1 p2 p3 (q4.trans p4 q4.next)
      | exit id => dsimp only at h1; cases h1; exact hQ _ (h2 _ (by simp)) a1 w1 ρ1 q1 q2 q3 q4
      | ret => dsimp only at h1; cases h1; exact hQ _ (h2 _ (by simp)) a1 w1 ρ1 q1 q2 q3 q4

theorem ended_some {l : Nat} {env : Env} {A : AHeap} {y : AEx × Env × AHeap} (h : ended l env A = some y) : ∃ r, A.get l = some (.loop r) ∧ r.st ≠ .busy ∧ y.2 = (env, A.put l (some (.loop { r with st := .exhausted }))) ∧
    (r.pending = none ∧ y.1 = .normal ∨ r.pending = some .ret ∧ y.1 = .ret ∨ ∃ id, r.pending = some (.exit id) ∧ y.1 = .exit id) := by
  unfold ended at h
  split at h
  · rename_i r hg
    refine ⟨r, hg, ?_⟩
    split at h
    · cases h
    · rename_i hst
      refine ⟨hst, ?_⟩
      split at h
      · rename_i hp; cases h; exact ⟨rfl, .inl ⟨hp, rfl⟩⟩
      · rename_i hp; cases h; exact ⟨rfl, .inr (.inl ⟨hp, rfl⟩)⟩
      · rename_i id hp; cases h; exact ⟨rfl, .inr (.inr ⟨id, hp, rfl⟩)⟩
      · cases h
  · cases h

set_option maxHeartbeats 1000000 in
/-- A loop over a function. -/
theorem nrange_ok {c : NCtx} (hc : NCtxOK P c) (hN : N = ntmpsOf P c.fn) {x : Operand} {ps : Array Tmp} {assign body : Code} {f : FuncId} {first captured : Array Value} {env : Env} {A A1 : AHeap} {l : Nat} {outs : List (Value × AHeap)} {ends : List (AEx × Env × AHeap)}
    (hx : aeval N x env = some (.func (.func f) first captured)) (hp : A.push (.loop { st := .ready, pending := none, fn := c.fn, env, params := ps, assign, body }) = some (l, A1))
    (hcall : c.call f (first.toList ++ [.func (.yield l) #[] #[]] ++ captured.toList) A1 = some outs) (hends : nbind (fun o : Value × AHeap => ofOne (ended l env o.2)) outs = some ends)
    {ρ : Emb} {w : World} {a : Act} {n : Nat} {Q : Exit → Act → World → Prop} (hh : HR P ρ A w) (he : ERel ρ N env a.tmps) (hm : Marks lo ρ A w a.defers)
    (hQ : ∀ x, x ∈ ends → ∀ a' w' ρ', ERel ρ' N x.2.1 a'.tmps → Marks lo ρ' x.2.2 w' a'.defers → HR P ρ' x.2.2 w' → Ext A.next ρ A w ρ' x.2.2 w' → Q (exitOf x.1) a' w') : (Code.rangeFunc x ps assign body).wpIn (W none) n P Q a w := by
  refine wpIn_rangeFunc fun fn _ => ?_
  have rf := aeval_rel hx fun t _ ht => he.eval ht
  generalize hfv : a.eval x = f' at rf
  obtain ⟨first⟩ := first
  obtain ⟨captured⟩ := captured
  cases rf with
  | @func _ fn' _ f2 _ c2 hfn hf1 hc1 =>
  cases hfn
  obtain ⟨d1, d2⟩ := hh.allocOther (.deferred (some [])) A.next
  obtain ⟨hnone, b1, b2⟩ := d1.push (l := ⟨(w.alloc (.deferred (some []))).heap.size, 0, 0, 0⟩) hp rfl
    (.loop (g := fn) (d := w.heap.size) (tmps := a.tmps) (by rw [← hN]; exact he))
  have hl0 := (AHeap.push_eq hp).1
  obtain ⟨W1, hW1⟩ : ∃ W1, W1 = (w.alloc (.deferred (some []))).alloc (.loop { state := .ready, pending := none, fn := fn, tmps := a.tmps, params := ps, assign := assign, body := body, defers := w.heap.size }) := ⟨_, rfl⟩
  rw [← hW1] at b1 b2
  obtain ⟨ρ1, hρ1⟩ : ∃ ρ1, ρ1 = ρ.with l ⟨(w.alloc (.deferred (some []))).heap.size, 0, 0, 0⟩ := ⟨_, rfl⟩
  rw [← hρ1] at b1 b2
  have hloc : ρ1 l = some ⟨w.heap.size + 1, 0, 0, 0⟩ := by rw [hρ1]; simp
  have hargs : VRs ρ1 (first ++ [.func (.yield l) #[] #[]] ++ captured) (f2 ++ [.func (.yield (w.heap.size + 1)) #[] #[]] ++ c2) :=
    ((hf1.mono b2.sub).append (.cons (.func (.yield hloc) .nil .nil) .nil)).append (hc1.mono b2.sub)
  have hexit : Ext A.next ρ A w ρ1 A1 W1 := d2.trans b2 (Nat.le_refl _)
  have hmarks : Marks lo ρ1 A1 W1 ({ target := .collected w.heap.size, args := #[] } :: a.defers) := by
    obtain ⟨m0, Ds, m1, m2, m3⟩ := hm
    refine ⟨Nat.le_trans m0 hexit.size, w.heap.size :: Ds, by rw [m1]; rfl, List.nodup_cons.2 ⟨fun hin => ?_, m2⟩, fun D' hD' => ?_⟩
    · have := (Array.getElem?_eq_some_iff.1 (m3 _ hin).1).1; omega
    · rcases List.mem_cons.1 hD' with rfl | hD'
      · refine ⟨?_, ?_, m0⟩
        · rw [hW1, heap_old _ _ _ (by simp)]; exact heap_new w _
        · rintro ⟨i, k, e1, e2, e3⟩
          by_cases hi : i = l
          · subst hi; rw [hloc] at e1; cases e1; simp at e3
          · rw [hρ1, Emb.with_ne hi] at e1; have := (hh.dom i k e1).2; omega
      · obtain ⟨q1, q2, q3⟩ := m3 D' hD'
        have hlt := (Array.getElem?_eq_some_iff.1 q1).1
        exact ⟨by rw [hexit.kept D' hlt q2]; exact q1, fun ho => q2 (hexit.own D' hlt ho), q3⟩
  obtain ⟨k1, k2⟩ := hc.call _ _ _ _ hcall ρ1 W1 _ b1 hargs
  have g1 : (Instr.enterLoop fn a.tmps ps assign body none).run P w = .ok (w.heap.size + 1, [{ target := .collected w.heap.size, args := #[] }]) W1 := by
    rw [hW1]; exact run_enterLoop_outer fn a.tmps ps assign body
  have g2 : (resolve a.eval (rangeCall x (w.heap.size + 1)) 0).run P W1 = .ok { target := .fn (.func f) ⟨c2⟩, args := (⟨f2⟩ : Array Value) ++ #[.func (.yield (w.heap.size + 1)) #[] #[]] } W1 := by
    have e1 : a.eval (.const (.func (.yield (w.heap.size + 1)) #[] #[])) = .func (.yield (w.heap.size + 1)) #[] #[] := rfl
    simp [rangeCall, resolve, hfv, Deferred.ofValue, e1]
  have g3 : (invoke (.fn (.func f) ⟨c2⟩) ((⟨f2⟩ : Array Value) ++ #[.func (.yield (w.heap.size + 1)) #[] #[]])).run P W1 = .ok (.enter f ⟨f2 ++ [.func (.yield (w.heap.size + 1)) #[] #[]] ++ c2⟩) W1 := by
    have : ((⟨f2⟩ : Array Value) ++ #[.func (.yield (w.heap.size + 1)) #[] #[]]) ++ ⟨c2⟩ = ⟨f2 ++ [.func (.yield (w.heap.size + 1)) #[] #[]] ++ c2⟩ := by apply Array.ext'; simp
    simp only [invoke, this]
    exact k1 W1
  have g4 : ∀ n, ((W none).depth.isSome = true → 1 ≤ n) := fun n h => by simp [W, Fence.wide] at h
  refine ⟨_, _, W1, _, W1, f, _, W1, g1, g2, fun _ _ => trivial, g3, g4 _, CallsIn.mono (callsIn_W k2) ?_⟩
  · rintro e w3 ⟨o, ho, v', rfl, ρ2, q1, q2, q3⟩
    obtain ⟨outs2, z1, z2⟩ := nbind_some hends o ho
    cases hy : ended l env o.2 with
    | none => rw [hy] at z1; cases z1
    | some y =>
    rw [hy] at z1
    cases z1
    have hyin := z2 y (by simp)
    obtain ⟨r, hget, hst, hy2, hex⟩ := ended_some hy
    have hl2 : ρ2 l = some ⟨w.heap.size + 1, 0, 0, 0⟩ := q3.sub _ _ hloc
    obtain ⟨R, r1, r2, r3, -, -, -, -, r4⟩ := q2.turnLoop hl2 hget
    obtain ⟨t1, t2⟩ := r4 .exhausted r.pending
    have hend := run_endLoop (P := P) r1 (by rw [r2]; exact hst)
    have hR : ({ R with state := .exhausted, pending := r.pending } : Loop) = { R with state := .exhausted } := by rw [← r3]
    rw [hR] at t1 t2
    have hn1 := b2.next
    have hn2 := q3.next
    have fin : Q (exitOf y.1) { a with defers := [{ target := .collected w.heap.size, args := #[] }] ++ a.defers } (w3.putObj (w.heap.size + 1) (.loop { R with state := .exhausted })) := by
      refine hQ y hyin _ _ ρ2 ?_ ?_ ?_ ?_
      · rw [hy2]; exact (he.mono hexit.sub).mono q3.sub
      · rw [hy2]; exact (hmarks.ext q3).ext t2
      · rw [hy2]; exact t1
      · rw [hy2]; exact (hexit.trans q3 hn1).trans t2 (Nat.le_trans hn1 hn2)
    obtain ⟨W4, hW4⟩ : ∃ W4, W4 = w3.putObj (w.heap.size + 1) (.loop { R with state := .exhausted }) := ⟨_, rfl⟩
    have hend' : (Instr.endLoop (w.heap.size + 1)).run P w3 = .ok r.pending W4 := by rw [hW4, ← r3]; exact hend
    rw [← hW4] at fin
    refine ⟨r.pending, W4, hend', ?_⟩
    rcases hex with ⟨e1, e2⟩ | ⟨e1, e2⟩ | ⟨id, e1, e2⟩
    · rw [e1]; rw [e2] at fin; exact fin
    · rw [e1]; rw [e2] at fin; exact wpIn_ret fin
    · rw [e1]; rw [e2] at fin; exact wpIn_exit fin

end
end Go.AI

/- A reading with several outcomes is sound: code, calls. -/
namespace Go.AI

section
variable {P : Program} {N lo : Nat} {ρ : Emb} {A : AHeap} {w : World}

theorem ncode_ok (hmix : P.follows .mixedOrders = true) {c : NCtx} (hc : NCtxOK P c) (hN : N = ntmpsOf P c.fn) {r : Option Nat} (hr : c.around.isNone = true → r = none) : ∀ (d : Nat) (code : Code), NCodeOK P N lo r code ((ncode P N d code).run c) := by
  intro d
  induction d with
  | zero => intro code env A outs h; cases h
  | succ d ih =>
    intro code env A outs h ρ w a n Q hh he hm hQ
    cases code with
    | skip =>
      have h' : some [(AEx.normal, env, A)] = some outs := h
      cases h'; exact wpIn_skip (hQ _ (List.mem_singleton.2 rfl) a w ρ he hm hh (.refl _ _ _ _))
    | label l =>
      have h' : some [(AEx.normal, env, A)] = some outs := h
      cases h'; exact wpIn_label (hQ _ (List.mem_singleton.2 rfl) a w ρ he hm hh (.refl _ _ _ _))
    | exit id =>
      have h' : some [(AEx.exit id, env, A)] = some outs := h
      cases h'; exact wpIn_exit (hQ _ (List.mem_singleton.2 rfl) a w ρ he hm hh (.refl _ _ _ _))
    | ret =>
      have h' : some [(AEx.ret, env, A)] = some outs := h
      cases h'; exact wpIn_ret (hQ _ (List.mem_singleton.2 rfl) a w ρ he hm hh (.refl _ _ _ _))
    | region id ops draw =>
      cases draw with
      | false =>
        have h' : normals ((nseq P N ops.toList ops.toList).run c env A) = some outs := h
        cases hs : (nseq P N ops.toList ops.toList).run c env A with
        | none => rw [hs] at h'; cases h'
        | some outs1 =>
          rw [hs] at h'
          simp only [normals, Option.some.injEq] at h'
          subst h'
          refine wpIn_region ?_
          have := nseq_ok (r := r) (n := n) (Q := Q) hc ops.toList 0 rfl env outs1 A ρ w a hs hh he fun x hx a' w' ρ' q1 q2 q3 q4 => hQ _ (List.mem_map.2 ⟨x, hx, rfl⟩) a' w' ρ' q1 (by rw [q2]; exact hm.ext q4) q3 q4
          rwa [Nat.sub_zero, ← List.range_eq_range'] at this
      | true =>
        have h' : normals (ofOne ((fdraw P N ops.toList).run c.det env A)) = some outs := h
        rw [fdraw_eq] at h'
        cases hs : adraw P N ops.toList c.det env A with
        | none => rw [hs] at h'; cases h'
        | some y =>
          obtain ⟨env1, A1⟩ := y
          rw [hs] at h'
          cases h'
          exact adraw_ok hmix hc.det hs hh he fun a' w' ρ' q1 q2 q3 q4 => hQ _ (List.mem_singleton.2 rfl) a' w' ρ' q1 (by rw [q2]; exact hm.ext q4) q3 q4
    | seq x y =>
      have h' : (match (ncode P N d x).run c env A with | some outs => nbind (fun o => match o.1 with | .normal => (ncode P N d y).run c o.2.1 o.2.2 | ex => some [(ex, o.2.1, o.2.2)]) outs | none => none) = some outs := h
      refine wpIn_seq ?_
      cases hx : (ncode P N d x).run c env A with
      | none => rw [hx] at h'; cases h'
      | some outs1 =>
        rw [hx] at h'
        dsimp only at h'
        refine ih x env A outs1 hx ρ w a n _ hh he hm fun z hz a1 w1 ρ1 q1 q2 q3 q4 => ?_
        obtain ⟨outs2, h1, h2⟩ := nbind_some h' z hz
        obtain ⟨ex1, env1, A1⟩ := z
        cases ex1 with
        | normal => exact ih y env1 A1 outs2 h1 ρ1 w1 a1 n Q q3 q1 q2 fun u hu a' w' ρ' p1 p2 p3 p4 => hQ u (h2 u hu) a' w' ρ' p1 p2 p3 (q4.trans p4 q4.next)
        | exit id => dsimp only at h1; cases h1; exact hQ _ (h2 _ (by simp)) a1 w1 ρ1 q1 q2 q3 q4
        | ret => dsimp only at h1; cases h1; exact hQ _ (h2 _ (by simp)) a1 w1 ρ1 q1 q2 q3 q4
    | cond x y z =>
      have h' : (match aeval N x env with | some (.bool t) => bif t then (ncode P N d y).run c env A else (ncode P N d z).run c env A | _ => none) = some outs := h
      split at h'
      · rename_i t ht
        have hb := aeval_rel ht fun s _ hs => he.eval hs
        have hbe : a.eval x = .bool t := by generalize a.eval x = u at hb; cases hb; rfl
        refine wpIn_cond hbe ?_
        cases t with
        | true => exact ih y env A outs h' ρ w a n Q hh he hm hQ
        | false => exact ih z env A outs h' ρ w a n Q hh he hm hQ
      · cases h'
    | block id x =>
      have h' : (match (ncode P N d x).run c env A with | some outs => some (outs.map fun o => match o.1 with | .exit id' => bif Nat.beq id' id then (AEx.normal, o.2.1, o.2.2) else (.exit id', o.2.1, o.2.2) | ex => (ex, o.2.1, o.2.2)) | none => none) = some outs := h
      refine wpIn_block ?_
      cases hx : (ncode P N d x).run c env A with
      | none => rw [hx] at h'; cases h'
      | some outs1 =>
        rw [hx] at h'
        simp only [Option.some.injEq] at h'
        refine ih x env A outs1 hx ρ w a n _ hh he hm fun z hz a1 w1 ρ1 q1 q2 q3 q4 => ?_
        have hin : (match z.1 with | .exit id' => bif Nat.beq id' id then (AEx.normal, z.2.1, z.2.2) else (.exit id', z.2.1, z.2.2) | ex => (ex, z.2.1, z.2.2)) ∈ outs := by
          rw [← h']; exact List.mem_map.2 ⟨z, hz, rfl⟩
        obtain ⟨ex1, env1, A1⟩ := z
        cases ex1 with
        | normal => exact hQ _ hin a1 w1 ρ1 q1 q2 q3 q4
        | ret => exact hQ _ hin a1 w1 ρ1 q1 q2 q3 q4
        | exit id' =>
          dsimp only at hin
          simp only [exitOf, Exit.inBlock]
          cases hb : Nat.beq id' id with
          | true =>
            rw [hb] at hin
            rw [if_pos (Nat.eq_of_beq_eq_true hb)]
            exact hQ _ hin a1 w1 ρ1 q1 q2 q3 q4
          | false =>
            rw [hb] at hin
            rw [if_neg fun e => by rw [e, Nat.beq_refl] at hb; cases hb]
            exact hQ _ hin a1 w1 ρ1 q1 q2 q3 q4
    | loop x =>
      have h' : nloop ((ncode P N d x).run c) c.rounds env A = some outs := h
      exact wpIn_loop_rounds c.rounds (nloop_ok (ih x) _ env A outs h' ρ w a hh he hm hQ)
    | rangeFunc x ps assign body =>
      have h' : (match aeval N x env with
        | some (.func (.func f) first captured) => match A.push (.loop { st := .ready, pending := none, fn := c.fn, env, params := ps, assign, body }) with
          | none => none
          | some (l, A) => bif !(hasBody P f && c.around.isNone) then none else match c.call f (first.toList ++ [.func (.yield l) #[] #[]] ++ captured.toList) A with
            | none => none
            | some outs => nbind (fun o : Value × AHeap => ofOne (ended l env o.2)) outs
        | _ => none) = some outs := h
      clear h
      split at h'
      case h_2 => cases h'
      rename_i f first captured hx
      split at h'
      · cases h'
      rename_i l A1 hp
      cases hb : hasBody P f && c.around.isNone with
      | false => rw [hb] at h'; cases h'
      | true =>
      rw [hb] at h'
      simp only [Bool.not_true, cond_false] at h'
      simp only [Bool.and_eq_true] at hb
      split at h'
      · cases h'
      rename_i outs1 hcall
      have hrn := hr hb.2
      subst hrn
      exact nrange_ok hc hN hx hp hcall h' hh he hm hQ
    | _ => cases h

theorem nbody_ok (hmix : P.follows .mixedOrders = true) {f : FuncId} {fn : Func} {code : Code} (hf : P.funcs[f]? = some fn) (hb : fn.body = some code) {c : NCtx} (hc : NCtxOK P c) (hcf : c.fn = f)
    {args : List Value} {outs : List (Value × AHeap)} (h : nbody P fn code c args A = some outs) (hh : HR P ρ A w) {args' : List Value} (hv : VRs ρ args args') : Calls P f ⟨args'⟩ w (NGood P ρ A w outs) := by
  unfold nbody at h
  cases hN : Nat.ble fn.ntmps 256 && Nat.ble args.length fn.ntmps with
  | false => rw [hN] at h; cases h
  | true =>
  rw [hN] at h
  simp only [cond_true] at h
  simp only [Bool.and_eq_true, ble_iff] at hN
  obtain ⟨hN, hl⟩ := hN
  cases hx : (ncode P fn.ntmps CD code).run c (envOf fn.ntmps args) A with
  | none => rw [hx] at h; cases h
  | some outs1 =>
  rw [hx] at h
  dsimp only at h
  have hNf : fn.ntmps = ntmpsOf P c.fn := by rw [hcf]; simp [ntmpsOf, hf]
  have key : CallsIn (W none) 0 P f ⟨args'⟩ w (NGood P ρ A w outs) := by
    refine callsIn_of_wp_marks hf hb trivial ?_ rfl
    refine ncode_ok hmix hc hNf (r := none) (fun _ => rfl) CD code (envOf fn.ntmps args) A outs1 hx ρ w _ 0 _ hh (envOf_rel hN hv hl) (Marks.nil (Nat.le_refl _)) fun z hz a' w' ρ' q1 q2 q3 q4 => ?_
    obtain ⟨outs2, h1, h2⟩ := nbind_some h z hz
    obtain ⟨ex, env1, A1⟩ := z
    have hvs : ∃ vs, aresults P fn.ntmps env1 A1 fn.results.toList = some vs ∧ (packed vs, A1) ∈ outs ∧ (ex = .normal ∨ ex = .ret) := by
      cases ex with
      | exit id => dsimp only at h1; cases h1
      | normal =>
        dsimp only at h1
        split at h1
        · cases h1; exact ⟨_, by assumption, h2 _ (by simp), .inl rfl⟩
        · cases h1
      | ret =>
        dsimp only at h1
        split at h1
        · cases h1; exact ⟨_, by assumption, h2 _ (by simp), .inr rfl⟩
        · cases h1
    obtain ⟨vs, hvs, hin, hex⟩ := hvs
    obtain ⟨-, Ds, m1, m2, m3⟩ := q2
    have := leaves_marks (P := P) (fn := fn) (R := NGood P ρ A w outs) (n := 0) q1 hvs (fun v' w'' p1 p2 p3 => ⟨_, hin, v', rfl, ρ', p1, p2, p3⟩) Ds w' q3 q4 m2 m3
    rw [← m1] at this
    rcases hex with rfl | rfl
    · exact this
    · exact this
  exact callsIn_wide.1 key

theorem nenter_ok (hmix : P.follows .mixedOrders = true) (hnames : namesOK P = true) {f : FuncId} {ctx : FuncId → NCtx} (hctx : ∀ g, NCtxOK P (ctx g) ∧ (ctx g).fn = g)
    {args : List Value} {outs : List (Value × AHeap)} (h : nenter P f ctx args A = some outs) (hh : HR P ρ A w) {args' : List Value} (hv : VRs ρ args args') : NCallOK P ρ A w f args' outs := by
  unfold nenter at h
  cases hf : P.funcs[f]? with
  | none => rw [hf] at h; cases h
  | some fn =>
    rw [hf] at h
    dsimp only at h
    cases hb : fn.body with
    | none => rw [hb] at h; cases h
    | some code =>
      rw [hb] at h
      obtain ⟨c1, c2⟩ := hctx f
      exact ⟨enters_ok hnames hf hb _, nbody_ok hmix hf hb c1 c2 h hh hv⟩

/-- A round. -/
theorem nround_ok (hmix : P.follows .mixedOrders = true) {l : Nat} {ctx : FuncId → NCtx} (hctx : ∀ g, NCtxOK P (ctx g) ∧ (ctx g).fn = g ∧ (ctx g).around = some l) {args : List Value} {outs : List (Value × AHeap)} (h : nround P ctx l args A = some outs) (hh : HR P ρ A w)
    {k : Loc} (hl : ρ l = some k) {args' : List Value} (hv : VRs ρ args args') :
    ∃ (g : FuncId) (tmps : Array Value) (assign body : Code), (Instr.yield k.blk ⟨args'⟩).run P w = .ok (.round k.blk g tmps assign body) w ∧ ∀ n r, RoundIn (W r) n P k.blk g tmps assign body w (NGood P ρ A w outs) := by
  unfold nround at h
  split at h
  case h_2 => cases h
  rename_i r hg
  cases hf : P.funcs[r.fn]? with
  | none => rw [hf] at h; cases h
  | some fn =>
  rw [hf] at h
  dsimp only at h
  cases hN : Nat.ble fn.ntmps 256 with
  | false => rw [hN] at h; cases h
  | true =>
  rw [hN] at h
  simp only [Bool.not_true, cond_false] at h
  have hN := Nat.le_of_ble_eq_true hN
  have hNf : ∀ g, g = r.fn → fn.ntmps = ntmpsOf P g := fun g e => by rw [e]; simp [ntmpsOf, hf]
  cases hlaid : laidIn fn.ntmps r.params.toList args r.env with
  | none => rw [hlaid] at h; cases h
  | some env0 =>
  rw [hlaid] at h
  dsimp only at h
  split at h
  case h_2 => cases h
  rename_i env1 A1 hassign
  split at h
  case h_2 => cases h
  rename_i r1 hg1
  cases hst : r1.st == LoopState.ready with
  | false => rw [hst] at h; cases h
  | true =>
  rw [hst] at h
  simp only [cond_true] at h
  cases hbody : (ncode P fn.ntmps CD r.body).run (ctx r.fn) env1 (A1.put l (some (.loop { r1 with st := .busy }))) with
  | none => rw [hbody] at h; cases h
  | some outs1 =>
  rw [hbody] at h
  dsimp only at h
  obtain ⟨R, t1, -, -, t4, t5, t6, t7, -⟩ := hh.turnLoop hl hg
  rw [← hNf _ rfl] at t7
  obtain ⟨z1, z2⟩ := laidIn_rel hN _ _ args' _ _ _ hlaid hv t7
  have hzip : (R.params.zip ⟨args'⟩).foldl (fun tmps (t, a) => tmps.setIfInBounds t a) R.tmps = (r.params.toList.zip args').foldl (fun t (p, a) => t.setIfInBounds p a) R.tmps := by
    rw [t4, ← Array.foldl_toList, Array.toList_zip]
  refine ⟨R.fn, (R.params.zip ⟨args'⟩).foldl (fun tmps (t, a) => tmps.setIfInBounds t a) R.tmps, R.assign, R.body, run_yield t1 (by rw [t4]; simpa using z1), fun n ro => ?_⟩
  rw [hzip, t5, t6]
  obtain ⟨c1, c2, c3⟩ := hctx r.fn
  refine roundIn_of_wpIn trivial ?_
  have hno : (ctx r.fn).around.isNone = true → (some k.blk) = none := fun h => by rw [c3] at h; cases h
  refine ncode_ok hmix c1 (hNf _ c2) (r := some k.blk) hno CD r.assign env0 A _ hassign ρ w _ n _ hh z2 (Marks.nil (lo := 0) (Nat.zero_le _)) fun x hx a1 w1 ρ1 q1 q2 q3 q4 => ?_
  rw [List.mem_singleton] at hx
  subst hx
  obtain ⟨R1, u1, u2, u3, -, -, -, -, u8⟩ := q3.turnLoop (q4.sub _ _ hl) hg1
  obtain ⟨v1, v2⟩ := u8 .busy r1.pending
  have hst1 : R1.state = .ready := by rw [u2]; exact eq_of_beq hst
  have hbegin := run_beginRound (P := P) u1 hst1
  have hR1 : ({ R1 with state := .busy, pending := r1.pending } : Loop) = { R1 with state := .busy } := by rw [← u3]
  rw [hR1] at v1 v2
  refine ⟨_, hbegin, ?_⟩
  refine ncode_ok hmix c1 (hNf _ c2) (r := some k.blk) hno CD r.body env1 _ outs1 hbody ρ1 _ a1 n _ v1 q1 (q2.ext v2) fun x hx a2 w2 ρ2 p1 p2 p3 p4 => ?_
  obtain ⟨outs2, y1, y2⟩ := nbind_some h x hx
  obtain ⟨ex, env2, A2⟩ := x
  dsimp only at y1 p1 p2 p3 p4
  split at y1
  case h_2 => cases y1
  rename_i r2 hg2
  obtain ⟨R2, s1, s2, s3, -, -, -, -, s8⟩ := p3.turnLoop (p4.sub _ _ (q4.sub _ _ hl)) hg2
  have n1 := q4.next
  have n2 := v2.next
  have n3 := p4.next
  have hext : Ext A.next ρ A w ρ2 A2 w2 := (q4.trans v2 n1).trans p4 (Nat.le_trans n1 n2)
  have hle : A.next ≤ A2.next := hext.next
  cases ex with
  | normal =>
    cases y1
    obtain ⟨x1, x2⟩ := s8 .ready none
    exact ⟨_, _, run_endRound none s1, _, y2 _ (List.mem_singleton.2 rfl), _, rfl, ρ2, .bool true, x1, hext.trans x2 hle⟩
  | ret =>
    cases y1
    obtain ⟨x1, x2⟩ := s8 .done (some .ret)
    exact ⟨_, _, run_endRound (some .ret) s1, _, y2 _ (List.mem_singleton.2 rfl), _, rfl, ρ2, .bool false, x1, hext.trans x2 hle⟩
  | exit id =>
    cases y1
    obtain ⟨x1, x2⟩ := s8 .done (some (.exit id))
    exact ⟨_, _, run_endRound (some (.exit id)) s1, _, y2 _ (List.mem_singleton.2 rfl), _, rfl, ρ2, .bool false, x1, hext.trans x2 hle⟩

theorem ncalls_ok (hmix : P.follows .mixedOrders = true) (hnames : namesOK P = true) : ∀ (n : Nat) (rounds : Nat) (fn : FuncId) (ar : Option Nat),
    NCtxOK P { call := (ncalls P n).1, round := (ncalls P n).2, rounds, fn, around := ar }
  | 0, _, _, _ => ⟨fun f args A outs h => (by cases h), fun l args A outs h => (by cases h)⟩
  | n + 1, _, _, _ => ⟨fun f args A outs h ρ w args' hh hv => nenter_ok hmix hnames (ctx := fun fn => { call := (ncalls P n).1, round := (ncalls P n).2, rounds := 100000, fn, around := none }) (fun g => ⟨ncalls_ok hmix hnames n _ _ _, rfl⟩) h hh hv,
      fun l args A outs h ρ w k args' hh hl hv => nround_ok hmix (ctx := fun fn => { call := (ncalls P n).1, round := (ncalls P n).2, rounds := 100000, fn, around := some l }) (fun g => ⟨ncalls_ok hmix hnames n _ _ _, rfl, rfl⟩) h hh hl hv⟩

theorem ncall_ok (hmix : P.follows .mixedOrders = true) (hnames : namesOK P = true) {n : Nat} {f : FuncId} {args : List Value} {outs : List (Value × AHeap)} {A : AHeap} (h : ncall P n f args A = some outs)
    {ρ : Emb} {w : World} {args' : List Value} (hh : HR P ρ A w) (hv : VRs ρ args args') : NCallOK P ρ A w f args' outs :=
  (ncalls_ok hmix hnames n 0 0 none).call f args A outs h ρ w args' hh hv

end
end Go.AI

/- A call over a part of the heap, its outcomes laid together. -/
namespace Go.AI

/-- The blocks ks alone. -/
def restrict (A : AHeap) (ks : List Nat) : AHeap := { next := A.next, tab := ks.foldl (fun t k => t.set HD k (RObj.of (A.get k))) (.leaf none) }

def ents : List MapEntry → List MapEntry → Bool
  | [], [] => true
  | a :: l, b :: m => veq a.key b.key && veq a.val b.val && Nat.beq a.born b.born && ents l m
  | _, _ => false

def sameObj (o p : Option AObj) : Bool := match o, p with
  | some (.map es c), some (.map fs d) => ents es fs && Nat.beq c d
  | some a, some b => oeq a b
  | _, _ => false

/-- The row that a value names. -/
def rowIn (A : AHeap) (v : Value) (B : AHeap) : Option (Option (Nat × AObj)) := match v with
  | .slice (some a) _ _ => bif Nat.ble A.next a.block then (match B.get a.block with
    | some row => some (some (a.block, row))
    | none => none) else none
  | v => bif flat v then some none else none

def laidOn (A : AHeap) (next : Nat) : Option (Nat × AObj) → AHeap
  | none => { next, tab := A.tab }
  | some (i, row) => { next, tab := A.tab.set HD i (some (.obj row)) }

def alikeRow : Option (Option (Nat × AObj)) → Option (Nat × AObj) → Bool
  | some none, none => true
  | some (some (i, r)), some (j, s) => Nat.beq i j && oeq r s
  | _, _ => false

def collapse (P : Program) (n : Nat) (f : FuncId) (args : List Value) (A : AHeap) (ks : List Nat) : AR := match ncall P n f args (restrict A ks) with
  | some (o :: rest) => match rowIn A o.1 o.2 with
    | none => none
    | some row => bif ks.all (fun k => Nat.blt k A.next) && (o :: rest).all (fun p => veq o.1 p.1 && Nat.beq p.2.next o.2.next && ks.all (fun k => sameObj (A.get k) (p.2.get k)) && alikeRow (rowIn A p.1 p.2) row) then
        some (o.1, laidOn A o.2.next row) else none
  | _ => none

theorem ents_eq : ∀ {l m : List MapEntry}, ents l m = true → l = m
  | [], [], _ => rfl
  | [], _ :: _, h => by simp [ents] at h
  | _ :: _, [], h => by simp [ents] at h
  | ⟨k, v, b⟩ :: l, ⟨k', v', b'⟩ :: m, h => by
    simp only [ents, Bool.and_eq_true] at h
    obtain ⟨⟨⟨h1, h2⟩, h3⟩, h4⟩ := h
    rw [veq_eq h1, veq_eq h2, Nat.eq_of_beq_eq_true h3, ents_eq h4]

theorem sameObj_eq {o p : Option AObj} (h : sameObj o p = true) : o = p := by
  unfold sameObj at h
  split at h
  · simp only [Bool.and_eq_true] at h
    rw [ents_eq h.1, Nat.eq_of_beq_eq_true h.2]
  · rw [oeq_eq h]
  · cases h

section
variable {P : Program} {ρ : Emb} {A : AHeap} {w : World}

theorem restrict_fold (A : AHeap) : ∀ (ks : List Nat) (t : Tr (Option RObj)) (j : Nat), (∀ k, k ∈ ks → k < hcap) → j < hcap → (ks.foldl (fun t k => t.set HD k (RObj.of (A.get k))) t).get HD j = if j ∈ ks then RObj.of (A.get j) else t.get HD j
  | [], t, j, _, _ => by simp
  | k :: ks, t, j, hk, hj => by
    simp only [List.foldl_cons]
    rw [restrict_fold A ks _ j (fun x hx => hk x (by simp [hx])) hj]
    by_cases h : j ∈ ks
    · rw [if_pos h, if_pos (by simp [h])]
    · rw [if_neg h]
      by_cases h2 : k = j
      · subst h2; rw [if_pos (by simp), Tr.get_set_same]
      · rw [if_neg (by simp [h, Ne.symm h2]), Tr.get_set_ne _ _ _ _ _ (by have := hk k (by simp); simpa [HD, hcap] using this) (by simpa [HD, hcap] using hj) h2]

theorem restrict_get {ks : List Nat} (hk : ∀ k, k ∈ ks → k < hcap) (j : Nat) : (restrict A ks).get j = if j ∈ ks then A.get j else none := by
  rw [AHeap.get_eq]
  by_cases hj : hcap ≤ j
  · rw [if_pos hj]
    by_cases h : j ∈ ks
    · exact absurd (hk j h) (by omega)
    · rw [if_neg h]
  · rw [if_neg hj]
    show RObj.norm (Tr.get HD j (ks.foldl (fun (t : Tr (Option RObj)) k => t.set HD k (RObj.of (A.get k))) (Tr.leaf none))) = _
    rw [restrict_fold A ks _ j hk (by omega), Tr.get_leaf]
    split
    · cases A.get j <;> rfl
    · rfl

theorem HR.sub (h : HR P ρ A w) {B : AHeap} (hn : B.next = A.next) (hs : ∀ j, B.get j = none ∨ B.get j = A.get j) : HR P ρ B w := by
  have hne : ∀ j, B.get j ≠ none → A.get j ≠ none := fun j hj => by
    rcases hs j with e | e
    · exact absurd e hj
    · rw [← e]; exact hj
  refine ⟨fun i l e => by rw [hn]; exact h.dom i l e, fun i j l k ei ej hi hj e => h.inj i j l k ei ej (hne i hi) (hne j hj) e, fun i l o e ho => ?_, fun i hi => ?_⟩
  · rcases hs i with e2 | e2
    · rw [e2] at ho; cases ho
    · rw [e2] at ho; exact h.obj i l o e ho
  · rcases hs i with e2 | e2
    · exact e2
    · rw [e2]; exact h.top i (by omega)

/-- A run over a part of the heap, told of the whole. -/
theorem settle_ok (h : HR P ρ A w) {B B' A2 : AHeap} {ρ' : Emb} {w' : World} (hbn : B.next = A.next) (hbs : ∀ j, B.get j = none ∨ B.get j = A.get j) (h' : HR P ρ' B' w') (e : Ext A.next ρ B w ρ' B' w')
    (hk : ∀ j, B.get j ≠ none → B'.get j = A.get j) (hn : A2.next = B'.next) (g1 : ∀ j, j < A.next → A2.get j = A.get j) (g2 : ∀ j, A.next ≤ j → A2.get j = none ∨ A2.get j = B'.get j) :
    HR P ρ' A2 w' ∧ Ext A.next ρ A w ρ' A2 w' := by
  have hne : ∀ j, B.get j ≠ none → A.get j ≠ none := fun j hj => by
    rcases hbs j with e | e
    · exact absurd e hj
    · rw [← e]; exact hj
  have hold : ∀ j l, j < A.next → ρ' j = some l → ρ j = some l := fun j l hj hl => by
    cases hx : ρ j with
    | none => rw [e.old j hj hx] at hl; cases hl
    | some k => have := e.sub j k hx; rw [hl] at this; cases this; rfl
  have hnew : ∀ j, A.next ≤ j → A2.get j ≠ none → B'.get j ≠ none := fun j hj h2 => by
    rcases g2 j hj with e | e
    · exact absurd e h2
    · rw [← e]; exact h2
  have hown : ∀ b, Own ρ B b → Own ρ A b := fun b ⟨i, l, h1, h2, h3⟩ => ⟨i, l, h1, hne i h2, h3⟩
  -- an old block that the callee's names come to is the callee's
  have cross : ∀ i j l k, i < A.next → A.next ≤ j → ρ' i = some l → ρ' j = some k → A2.get i ≠ none → A2.get j ≠ none → l.blk = k.blk → i = j := by
    intro i j l k hi hj el ek hgi hgj hb
    have el' := hold i l hi el
    rw [g1 i hi] at hgi
    have hlt := (h.dom i l el').2
    obtain ⟨i2, l2, o1, o2, o3⟩ := e.own l.blk hlt ⟨j, k, ek, hnew j hj hgj, hb.symm⟩
    have := h.inj i2 i l2 l o1 el' (hne i2 o2) hgi o3
    subst this
    exact h'.inj i2 j l k el ek (by rw [hk i2 o2]; exact hgi) (hnew j hj hgj) hb
  refine ⟨⟨fun i l el => by rw [hn]; exact h'.dom i l el, fun i j l k el ek hgi hgj hb => ?_, fun j l o el ho => ?_, fun j hj => ?_⟩, ⟨e.sub, e.old, ?_, e.size, fun b hb hno => e.kept b hb fun ho => hno (hown b ho), ?_, e.os, e.out, e.tape⟩⟩
  · by_cases hi : i < A.next
    · by_cases hj : j < A.next
      · exact h.inj i j l k (hold i l hi el) (hold j k hj ek) (by rw [← g1 i hi]; exact hgi) (by rw [← g1 j hj]; exact hgj) hb
      · exact cross i j l k hi (by omega) el ek hgi hgj hb
    · by_cases hj : j < A.next
      · exact (cross j i k l hj (by omega) ek el hgj hgi hb.symm).symm
      · exact h'.inj i j l k el ek (hnew i (by omega) hgi) (hnew j (by omega) hgj) hb
  · by_cases hj : j < A.next
    · rw [g1 j hj] at ho
      have el' := hold j l hj el
      by_cases hb : B.get j = none
      · obtain ⟨x, hx, hr⟩ := h.obj j l o el' ho
        refine ⟨x, ?_, hr.mono e.sub⟩
        rw [e.kept l.blk (h.dom j l el').2 ?_]; exact hx
        rintro ⟨i2, l2, o1, o2, o3⟩
        have := h.inj i2 j l2 l o1 el' (hne i2 o2) (by rw [ho]; simp) o3
        subst this; exact o2 hb
      · exact h'.obj j l o el (by rw [hk j hb]; exact ho)
    · rcases g2 j (by omega) with e2 | e2
      · rw [e2] at ho; cases ho
      · exact h'.obj j l o el (by rw [← e2]; exact ho)
  · have hnx := e.next
    rcases g2 j (by omega) with e2 | e2
    · exact e2
    · rw [e2]; exact h'.top j (by omega)
  · have := e.next; omega
  · rintro b hb ⟨j, l, el, hg, hbl⟩
    by_cases hj : j < A.next
    · exact ⟨j, l, hold j l hj el, by rw [← g1 j hj]; exact hg, hbl⟩
    · exact hown b (e.own b hb ⟨j, l, el, hnew j (by omega) hg, hbl⟩)

theorem rowIn_some {v : Value} {B : AHeap} {i : Nat} {row : AObj} (h : rowIn A v B = some (some (i, row))) : A.next ≤ i ∧ B.get i = some row := by
  unfold rowIn at h
  split at h
  · rename_i a m k
    simp only [Bool.cond_eq_ite, ble_iff] at h
    split at h
    · rename_i hb
      split at h
      · rename_i r hg
        simp only [Option.some.injEq, Prod.mk.injEq] at h
        obtain ⟨h1, h2⟩ := h
        subst h1 h2
        exact ⟨hb, hg⟩
      · cases h
    · cases h
  · simp only [Bool.cond_eq_ite] at h
    split at h <;> cases h

theorem collapse_ok (hmix : P.follows .mixedOrders = true) (hnames : namesOK P = true) {n : Nat} {f : FuncId} {args : List Value} {ks : List Nat} {v : Value} {A' : AHeap} (h : collapse P n f args A ks = some (v, A')) (hh : HR P ρ A w)
    {args' : List Value} (hv : VRs ρ args args') : CallOK P ρ A w f args' v A' := by
  left
  unfold collapse at h
  split at h
  case h_2 => cases h
  rename_i o rest hnc
  cases hrow : rowIn A o.1 o.2 with
  | none => rw [hrow] at h; cases h
  | some row =>
  rw [hrow] at h
  simp only [Bool.cond_eq_ite] at h
  split at h
  case isFalse => cases h
  rename_i hchk
  cases h
  rw [Bool.and_eq_true] at hchk
  obtain ⟨hks, hall⟩ := hchk
  have hnh : ∀ k, k ∈ ks → k < A.next := fun k hk => blt_iff.1 (List.all_eq_true.1 hks k hk)
  -- what is kept names blocks that there are
  have hin : ∀ p, p ∈ o :: rest → ∀ k, k ∈ ks → p.2.get k = A.get k ∧ A.get k ≠ none := fun p hp k hk => by
    have h1 := List.all_eq_true.1 hall p hp
    simp only [Bool.and_eq_true] at h1
    have h2 := List.all_eq_true.1 h1.1.2 k hk
    have h3 := sameObj_eq h2
    refine ⟨h3.symm, fun hn => ?_⟩
    rw [hn] at h2; simp [sameObj] at h2
  have hkc : ∀ k, k ∈ ks → k < hcap := fun k hk => by
    obtain ⟨-, h2⟩ := hin o (by simp) k hk
    cases hg : A.get k with
    | none => exact absurd hg h2
    | some x => exact AHeap.lt_of_get hg
  have hbs : ∀ j, (restrict A ks).get j = none ∨ (restrict A ks).get j = A.get j := fun j => by
    rw [restrict_get hkc]; split
    · exact .inr rfl
    · exact .inl rfl
  have hB : HR P ρ (restrict A ks) w := hh.sub rfl hbs
  obtain ⟨k1, k2⟩ := ncall_ok hmix hnames hnc hB hv
  refine ⟨k1, k2.mono ?_⟩
  rintro e w' ⟨p, hp, v', rfl, ρ', q1, q2, q3⟩
  have h1 := List.all_eq_true.1 hall p hp
  simp only [Bool.and_eq_true] at h1
  obtain ⟨⟨⟨a1, a2⟩, a3⟩, a4⟩ := h1
  have hv1 := veq_eq a1
  have hn1 := Nat.eq_of_beq_eq_true a2
  refine ⟨v', rfl, ρ', by rw [hv1]; exact q1, ?_⟩
  refine settle_ok (B := restrict A ks) hh rfl hbs q2 q3 (fun j hj => ?_) ?_ (fun j hj => ?_) (fun j hj => ?_)
  · rw [restrict_get hkc] at hj
    split at hj
    · rename_i hjk; exact (hin p hp j hjk).1
    · exact absurd rfl hj
  · cases row with
    | none => exact hn1.symm
    | some x => exact hn1.symm
  · cases row with
    | none => rfl
    | some x =>
      obtain ⟨i, rw0⟩ := x
      have hi : A.next ≤ i := (rowIn_some hrow).1
      have hih : i < hcap := by
        cases hr2 : rowIn A p.1 p.2 with
        | none => rw [hr2] at a4; cases a4
        | some y =>
          cases y with
          | none => rw [hr2] at a4; cases a4
          | some z =>
            obtain ⟨i2, s⟩ := z
            rw [hr2] at a4
            simp only [alikeRow, Bool.and_eq_true] at a4
            have e1 := Nat.eq_of_beq_eq_true a4.1
            subst e1
            exact AHeap.lt_of_get (rowIn_some hr2).2
      exact AHeap.get_put_ne A (some rw0) hih (by omega)
  · cases row with
    | none =>
      left
      show A.get j = none
      exact hh.top j hj
    | some x =>
      obtain ⟨i, rw0⟩ := x
      cases hr2 : rowIn A p.1 p.2 with
      | none => rw [hr2] at a4; cases a4
      | some y =>
        cases y with
        | none => rw [hr2] at a4; cases a4
        | some z =>
          obtain ⟨i2, s⟩ := z
          rw [hr2] at a4
          simp only [alikeRow, Bool.and_eq_true] at a4
          have e1 := Nat.eq_of_beq_eq_true a4.1
          have e2 := oeq_eq a4.2
          subst e1 e2
          have hg : p.2.get i2 = some s := (rowIn_some hr2).2
          have hih := AHeap.lt_of_get hg
          by_cases hj2 : j = i2
          · subst hj2; right; rw [hg]; exact AHeap.get_put_same A (some s) hih
          · left
            have := AHeap.get_put_ne A (some s) hih (Ne.symm hj2)
            exact this.trans (hh.top j hj)

end
end Go.AI

/- Functions over a closure that holds a map. -/
namespace Go.AI

def overMap (P : Program) (n : Nat) (f : FuncId) : List Value → AHeap → AR := fun args A => match args with
  | [.func (.func _) _ captured] => match captured.toList with
    | [.pointer (some a)] => match A.get a.block with
      | some (.cells [.map (some r)] _) => collapse P n f args A [a.block, r]
      | some (.cells [.map none] _) => collapse P n f args A [a.block]
      | _ => none
    | _ => none
  | _ => none

theorem overMap_ok {P : Program} (hmix : P.follows .mixedOrders = true) (hnames : namesOK P = true) {n : Nat} {f : FuncId} (args : List Value) (A : AHeap) (v : Value) (A' : AHeap) (h : overMap P n f args A = some (v, A'))
    (ρ : Emb) (w : World) (args' : List Value) (hh : HR P ρ A w) (hv : VRs ρ args args') : CallOK P ρ A w f args' v A' := by
  unfold overMap at h
  split at h
  · split at h
    · split at h
      · exact collapse_ok hmix hnames h hh hv
      · exact collapse_ok hmix hnames h hh hv
      · cases h
    · cases h
  · cases h

end Go.AI
