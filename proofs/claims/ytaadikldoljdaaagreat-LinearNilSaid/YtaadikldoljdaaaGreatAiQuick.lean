/- Proved: a quicker reading is the same, and what was reckoned once holds elsewhere; under the conditions that its theorems name. -/
import Derived.Test.YtaadikldoljdaaaGreatAiMany
import Derived.Test.YtaadikldoljdaaaGreatAiCode
import Derived.Below
import Derived.WalkKit
import Derived.ProofKit
import Derived.OpenShut

/- A closed call that the interpreter answers with true, in the model. -/
namespace Go.AI
open Go.RowKit

def resTrue (r : AR) : Bool := match r with
  | some (.bool b, _) => b
  | _ => false

theorem HR.empty (P : Program) (w : World) : HR P (fun _ => none) AHeap.empty w where
  dom := fun i l h => by cases h
  inj := fun i j l k h => by cases h
  obj := fun i l o h => by cases h
  top := fun i _ => by
    rw [AHeap.get_eq]
    split
    · rfl
    · show RObj.norm (Tr.get HD i (Tr.leaf none)) = none
      rw [Tr.get_leaf]; rfl

theorem closed_call {P : Program} (hmix : P.follows .mixedOrders = true) (hnames : namesOK P = true) {orc : Oracle} (horc : OrcOK P orc) {n : Nat} {f : FuncId} (hb : hasBody P f = true) (h : resTrue (fcall P orc n f [] .empty) = true) (w : World) :
    Calls P f #[] w fun e w' => e = .returned (.bool true) ∧ Below w.heap.size w w' := by
  rw [fcall_eq] at h
  unfold resTrue at h
  split at h
  · rename_i b A' hc
    subst h
    rcases acall_ok hmix hnames horc hc (HR.empty P w) (args' := []) .nil with ⟨-, h1⟩ | ⟨h1, -⟩
    · refine h1.mono ?_
      rintro e w' ⟨v', rfl, ρ', q1, q2, q3⟩
      have : v' = .bool true := by cases q1; rfl
      subst this
      refine ⟨rfl, q3.os, q3.tape, q3.out, q3.size, fun k hk => q3.kept k hk ?_⟩
      rintro ⟨i, l, h1, -⟩
      cases h1
    · rw [hb] at h1; cases h1
  · cases h

end Go.AI

/- The same interpreter once more, with what comes next handed on. -/
namespace Go.AI

theorem Cp.ext {α : Type} {a b : Cp α} (h : a.run = b.run) : a = b := by cases a; cases b; cases h; rfl

/-! ### Trees -/

noncomputable def getC {α : Type} (d : Nat) : Nat → Cp (Tr α → α) :=
  Nat.rec (motive := fun _ => Nat → Cp (Tr α → α))
    (fun _ => ⟨fun t => t.top⟩)
    (fun d ih i => bif Nat.ble (2 ^ d) i
      then ⟨fun t => Tr.rec (motive := fun _ => α) (fun a => a) (fun _ r _ _ => (ih (Nat.sub i (2 ^ d))).run r) t⟩
      else ⟨fun t => Tr.rec (motive := fun _ => α) (fun a => a) (fun l _ _ _ => (ih i).run l) t⟩) d

noncomputable def setC {α : Type} (d : Nat) : Nat → Cp (α → Tr α → Tr α) :=
  Nat.rec (motive := fun _ => Nat → Cp (α → Tr α → Tr α))
    (fun _ => ⟨fun v _ => .leaf v⟩)
    (fun d ih i => bif Nat.ble (2 ^ d) i
      then ⟨fun v t => Tr.rec (motive := fun _ => Tr α) (fun a => .node (.leaf a) ((ih (Nat.sub i (2 ^ d))).run v (.leaf a))) (fun l r _ _ => .node l ((ih (Nat.sub i (2 ^ d))).run v r)) t⟩
      else ⟨fun v t => Tr.rec (motive := fun _ => Tr α) (fun a => .node ((ih i).run v (.leaf a)) (.leaf a)) (fun l r _ _ => .node ((ih i).run v l) r) t⟩) d

theorem getC_run {α : Type} : ∀ (d i : Nat) (t : Tr α), (getC d i).run t = Tr.get d i t
  | 0, _, _ => rfl
  | d + 1, i, t => by
    show (bif Nat.ble (2 ^ d) i then (⟨fun t => Tr.rec (motive := fun _ => α) (fun a => a) (fun _ r _ _ => (getC d (Nat.sub i (2 ^ d))).run r) t⟩ : Cp (Tr α → α)) else ⟨fun t => Tr.rec (motive := fun _ => α) (fun a => a) (fun l _ _ _ => (getC d i).run l) t⟩).run t
      = (bif Nat.ble (2 ^ d) i then (fun t => Tr.casesOn (motive := fun _ => α) t (fun a => a) (fun _ r => Tr.get d (Nat.sub i (2 ^ d)) r)) else (fun t => Tr.casesOn (motive := fun _ => α) t (fun a => a) (fun l _ => Tr.get d i l))) t
    cases Nat.ble (2 ^ d) i <;> cases t <;> simp only [cond_true, cond_false, getC_run d]

theorem setC_run {α : Type} : ∀ (d i : Nat) (v : α) (t : Tr α), (setC d i).run v t = Tr.set d i v t
  | 0, _, _, _ => rfl
  | d + 1, i, v, t => by
    show (bif Nat.ble (2 ^ d) i then (⟨fun v t => Tr.rec (motive := fun _ => Tr α) (fun a => .node (.leaf a) ((setC d (Nat.sub i (2 ^ d))).run v (.leaf a))) (fun l r _ _ => .node l ((setC d (Nat.sub i (2 ^ d))).run v r)) t⟩ : Cp (α → Tr α → Tr α))
        else ⟨fun v t => Tr.rec (motive := fun _ => Tr α) (fun a => .node ((setC d i).run v (.leaf a)) (.leaf a)) (fun l r _ _ => .node ((setC d i).run v l) r) t⟩).run v t
      = (bif Nat.ble (2 ^ d) i then (fun t => Tr.casesOn (motive := fun _ => Tr α) t (fun a => .node (.leaf a) (Tr.set d (Nat.sub i (2 ^ d)) v (.leaf a))) (fun l r => .node l (Tr.set d (Nat.sub i (2 ^ d)) v r)))
        else (fun t => Tr.casesOn (motive := fun _ => Tr α) t (fun a => .node (Tr.set d i v (.leaf a)) (.leaf a)) (fun l r => .node (Tr.set d i v l) r))) t
    cases Nat.ble (2 ^ d) i <;> cases t <;> simp only [cond_true, cond_false, setC_run d]

/-! ### Values taken apart -/

noncomputable def onInt {β : Type} (a : Value) (f : IntKind → Nat → β) (d : β) : β :=
  @Value.rec (fun _ => β) (fun _ => Unit) (fun _ => Unit) (fun _ => d) (fun k n => Int.rec (f k) (fun _ => d) n) (fun _ _ => d) (fun _ _ _ => d) (fun _ => d) (fun _ => d) (fun _ _ _ => d) (fun _ => d) (fun _ => d) (fun _ _ _ _ _ => d) d (fun _ _ _ => d) d (fun _ _ => d) (fun _ _ => d) (fun _ _ => ()) () (fun _ _ _ _ => ()) a

noncomputable def onBool {β : Type} (a : Value) (t f d : β) : β :=
  @Value.rec (fun _ => β) (fun _ => Unit) (fun _ => Unit) (fun b => Bool.rec f t b) (fun _ _ => d) (fun _ _ => d) (fun _ _ _ => d) (fun _ => d) (fun _ => d) (fun _ _ _ => d) (fun _ => d) (fun _ => d) (fun _ _ _ _ _ => d) d (fun _ _ _ => d) d (fun _ _ => d) (fun _ _ => d) (fun _ _ => ()) () (fun _ _ _ _ => ()) a

noncomputable def onPtr {β : Type} (a : Value) (f : Addr → β) (d : β) : β :=
  @Value.rec (fun _ => β) (fun _ => Unit) (fun _ => Unit) (fun _ => d) (fun _ _ => d) (fun _ _ => d) (fun _ _ _ => d) (fun _ => d) (fun a => Option.rec d f a) (fun _ _ _ => d) (fun _ => d) (fun _ => d) (fun _ _ _ _ _ => d) d (fun _ _ _ => d) d (fun _ _ => d) (fun _ _ => d) (fun _ _ => ()) () (fun _ _ _ _ => ()) a

theorem onInt_eq {β : Type} (a : Value) (f : IntKind → Nat → β) (d : β) : onInt a f d = match a with | .int k (.ofNat n) => f k n | _ => d := by
  cases a with
  | int k n => cases n <;> rfl
  | _ => rfl

theorem onBool_eq {β : Type} (a : Value) (t f d : β) : onBool a t f d = match a with | .bool b => (bif b then t else f) | _ => d := by
  cases a with
  | bool b => cases b <;> rfl
  | _ => rfl

theorem onPtr_eq {β : Type} (a : Value) (f : Addr → β) (d : β) : onPtr a f d = match a with | .pointer (some a) => f a | _ => d := by
  cases a with
  | pointer a => cases a <;> rfl
  | _ => rfl

/-! ### Steps that know what comes next -/

section
variable {R : Type}

abbrev K1 (R : Type) := Value → Option R

def thenK (o : Option Value) (k : K1 R) : Option R := match o with
  | some v => k v
  | none => none

noncomputable def qcmp (p : Nat → Nat → Bool) (slow : Value → Value → Option Value) (a b : Value) (k : K1 R) : Option R :=
  onInt a (fun j m => onInt b (fun j' n => bif j == j' then k (.bool (p m n)) else none) (thenK (slow a b) k)) (thenK (slow a b) k)

noncomputable def qadd (slow : Value → Value → Option Value) (a b : Value) (k : K1 R) : Option R :=
  onInt a (fun j m => onInt b (fun j' n => bif j == j' && Nat.blt (Nat.add m n) (lim j) then k (.int j (.ofNat (Nat.add m n))) else thenK (slow a b) k) (thenK (slow a b) k)) (thenK (slow a b) k)

noncomputable def qshr (slow : Value → Value → Option Value) (a b : Value) (k : K1 R) : Option R :=
  onInt a (fun j m => onInt b (fun _ n => bif Nat.blt n 64 && Nat.blt n j.bits then k (.int j (.ofNat (Nat.shiftRight m n))) else thenK (slow a b) k) (thenK (slow a b) k)) (thenK (slow a b) k)

noncomputable def qslow (slow : Value → Value → Option Value) (a b : Value) (k : K1 R) : Option R := thenK (slow a b) k

noncomputable def qbin (P : Program) (op : BinOp) (t : TypeId) (x y : Operand) : Value → Value → K1 R → Option R := match op with
  | .lss => qcmp Nat.blt (fbin P .lss t x y)
  | .leq => qcmp Nat.ble (fbin P .leq t x y)
  | .gtr => qcmp (fun m n => Nat.blt n m) (fbin P .gtr t x y)
  | .geq => qcmp (fun m n => Nat.ble n m) (fbin P .geq t x y)
  | .eql => qcmp Nat.beq (fbin P .eql t x y)
  | .neq => qcmp (fun m n => !Nat.beq m n) (fbin P .neq t x y)
  | .add => qadd (fbin P .add t x y)
  | .shr => qshr (fbin P .shr t x y)
  | op => qslow (fbin P op t x y)

theorem qbin_eq (P : Program) (op : BinOp) (t : TypeId) (x y : Operand) (a b : Value) (k : K1 R) : qbin P op t x y a b k = thenK (fbin P op t x y a b) k := by
  cases op <;> first
    | rfl
    | (simp only [qbin, qcmp, onInt_eq]
       cases a with
       | int j m =>
         cases m with
         | negSucc m => rfl
         | ofNat m =>
           cases b with
           | int j' n =>
             cases n with
             | negSucc n => rfl
             | ofNat n => simp only [fbin]; cases (j == j') <;> rfl
           | _ => rfl
       | _ => rfl)
    | (simp only [qbin, qadd, onInt_eq]
       cases a with
       | int j m =>
         cases m with
         | negSucc m => rfl
         | ofNat m =>
           cases b with
           | int j' n =>
             cases n with
             | negSucc n => rfl
             | ofNat n => simp only [fbin]; cases (j == j' && Nat.blt (Nat.add m n) (lim j)) <;> rfl
           | _ => rfl
       | _ => rfl)
    | (simp only [qbin, qshr, onInt_eq]
       cases a with
       | int j m =>
         cases m with
         | negSucc m => rfl
         | ofNat m =>
           cases b with
           | int j' n =>
             cases n with
             | negSucc n => rfl
             | ofNat n => simp only [fbin]; cases (Nat.blt n 64 && Nat.blt n j.bits) <;> rfl
           | _ => rfl
       | _ => rfl)

end

theorem pureRun_bind {α β : Type} {P : Program} (s : Sem α) (f : α → Sem β) : pureRun P (s >>= f) = (pureRun P s).bind fun a => pureRun P (f a) := by
  show pureRun P (Sem.bind s f) = _
  induction s with
  | program k ih => exact ih P
  | pure a => rfl
  | _ => rfl

theorem pureRun_underlying {P : Program} {t : TypeId} {d : TypeDesc} (h : P.underlying t = some d) : pureRun P (underlying t) = some d := by
  unfold underlying
  rw [pureRun_bind]
  show pureRun P (match P.underlying t with | some d => pure d | none => stuck "no such type") = some d
  rw [h]; rfl

theorem pureFlat_convert {P : Program} {s d : TypeId} {j j' k : IntKind} {n : Int} (hs : P.underlying s = some (.int j)) (hd : P.underlying d = some (.int k)) : pureFlat P (convert s d (.int j' n)) = some (.int k (k.wrap n)) := by
  have h : pureRun P (convert s d (.int j' n)) = some (.int k (k.wrap n)) := by
    unfold convert
    rw [pureRun_bind, pureRun_underlying hs, Option.bind_some, pureRun_bind, pureRun_underlying hd, Option.bind_some]
    rfl
  unfold pureFlat
  rw [h]; rfl

theorem wrap_little {k : IntKind} {n : Nat} (h : Nat.blt n (lim k) = true) : k.wrap (.ofNat n) = .ofNat n := by
  have h := Nat.le_of_ble_eq_true h
  cases k <;> simp only [lim] at h <;> simp only [IntKind.wrap, IntKind.bits, IntKind.signed] <;> simp <;> omega

section
variable {R : Type}

def convSlow (P : Program) (s d : TypeId) (v : Value) : Option Value := bif flat v then pureFlat P (convert s d v) else none

noncomputable def qint (k : IntKind) (slow : Value → Option Value) (a : Value) (K : K1 R) : Option R :=
  onInt a (fun _ n => bif Nat.blt n (lim k) then K (.int k (.ofNat n)) else thenK (slow a) K) (thenK (slow a) K)

noncomputable def qconv (P : Program) (s d : TypeId) : Option (Value → K1 R → Option R) := match P.underlying s, P.underlying d with
  | some (.int _), some (.int k) => some (qint k (convSlow P s d))
  | _, _ => none

theorem qconv_eq {P : Program} {s d : TypeId} {f : Value → K1 R → Option R} (h : qconv P s d = some f) (a : Value) (K : K1 R) : f a K = thenK (convSlow P s d a) K := by
  unfold qconv at h
  split at h
  · rename_i j k hs hd
    cases h
    simp only [qint, onInt_eq]
    cases a with
    | int j' m =>
      cases m with
      | negSucc m => rfl
      | ofNat m =>
        dsimp only
        cases hb : Nat.blt m (lim k) with
        | false => rfl
        | true =>
          have : convSlow P s d (.int j' (.ofNat m)) = some (.int k (.ofNat m)) := by
            unfold convSlow
            rw [pureFlat_convert hs hd, wrap_little hb]; rfl
          rw [this]; rfl
    | _ => rfl
  · cases h
end

/-! ### Operands -/

noncomputable def opnd (N : Nat) : Operand → Option (Cp (Env → Value))
  | .tmp t => bif Nat.ble N t then none else some (getC (dt N) t)
  | .const v => bif flat v then some ⟨fun _ => v⟩ else none
  | .global _ => none
  | .func f => some ⟨fun _ => .func (.func f) #[] #[]⟩

theorem opnd_eq {N : Nat} {x : Operand} {g : Cp (Env → Value)} (h : opnd N x = some g) (env : Env) : aeval N x env = some (g.run env) := by
  cases x with
  | tmp t =>
    simp only [opnd] at h
    simp only [aeval]
    cases hb : Nat.ble N t with
    | true => rw [hb] at h; cases h
    | false => rw [hb] at h; cases h; simp only [cond_false, getC_run]
  | const v =>
    simp only [opnd] at h
    simp only [aeval]
    cases hb : flat v with
    | true => rw [hb] at h; cases h; rfl
    | false => rw [hb] at h; cases h
  | global g => cases h
  | func f => cases h; rfl

noncomputable def opnds (N : Nat) : List Operand → Option (Cp (Env → List Value))
  | [] => some ⟨fun _ => []⟩
  | x :: xs => match opnd N x, opnds N xs with
    | some g, some h => some ⟨fun env => g.run env :: h.run env⟩
    | _, _ => none

theorem opnds_eq {N : Nat} : ∀ {xs : List Operand} {g : Cp (Env → List Value)}, opnds N xs = some g → ∀ env, aevals N xs env = some (g.run env)
  | [], g, h, env => by cases h; rfl
  | x :: xs, g, h, env => by
    simp only [opnds] at h
    split at h
    · rename_i a b ha hb
      cases h
      simp only [aevals, opnd_eq ha, opnds_eq hb]
    · cases h

/-! ### Steps -/

abbrev KStep := Ctx → Env → AHeap → Res
abbrev SetT := Cp (Value → Env → Env)

noncomputable def kmove (g : Cp (Env → Value)) (s : SetT) (k : Cp KStep) : Cp KStep := ⟨fun c env A => k.run c (s.run (g.run env) env) A⟩

noncomputable def kbin (q : Value → Value → K1 (AEx × Env × AHeap) → Res) (g h : Cp (Env → Value)) (s : SetT) (k : Cp KStep) : Cp KStep :=
  ⟨fun c env A => q (g.run env) (h.run env) fun v => k.run c (s.run v env) A⟩

noncomputable def kun (q : Value → K1 (AEx × Env × AHeap) → Res) (g : Cp (Env → Value)) (s : SetT) (k : Cp KStep) : Cp KStep :=
  ⟨fun c env A => q (g.run env) fun v => k.run c (s.run v env) A⟩

noncomputable def kload (l : Value → AHeap → Option Value) (g : Cp (Env → Value)) (s : SetT) (k : Cp KStep) : Cp KStep :=
  ⟨fun c env A => Option.rec none (fun v => k.run c (s.run v env) A) (l (g.run env) A)⟩

noncomputable def qfield (P : Program) (s : TypeId) (f : Nat) : Option (Value → K1 (AEx × Env × AHeap) → Res) := match fieldOf P s f with
  | some fd => match sizeAt P fd.type with
    | some (_ + 1) => some fun x K => onPtr x (fun a => K (.pointer (some (a.add fd.offset)))) none
    | _ => none
  | none => none

theorem qfield_eq {P : Program} {s : TypeId} {i : Nat} {f : Value → K1 (AEx × Env × AHeap) → Res} (h : qfield P s i = some f) (a : Value) (K : K1 (AEx × Env × AHeap)) : f a K = thenK (afieldAddr P s i a) K := by
  unfold qfield at h
  unfold afieldAddr
  split at h
  · rename_i fd hfd
    split at h
    · rename_i n hn
      cases h
      simp only [hfd, hn, onPtr_eq]
      cases a with
      | pointer a => cases a <;> rfl
      | _ => rfl
    · cases h
  · cases h

/-- What a step and what comes next give. -/
def after (r : Option (Env × AHeap)) (k : Env → AHeap → Res) : Res := match r with
  | some (env, A) => k env A
  | none => none

noncomputable def kget (g : Cp (Env → Value)) (f : Value → AHeap → AR) (s : SetT) (k : Cp KStep) : Cp KStep :=
  ⟨fun c env A => Option.rec none (fun p => Prod.rec (fun v A => k.run c (s.run v env) A) p) (f (g.run env) A)⟩

noncomputable def kget2 (g h : Cp (Env → Value)) (f : Value → Value → AHeap → AR) (s : SetT) (k : Cp KStep) : Cp KStep :=
  ⟨fun c env A => Option.rec none (fun p => Prod.rec (fun v A => k.run c (s.run v env) A) p) (f (g.run env) (h.run env) A)⟩

noncomputable def kcall (f : FuncId) (xs : Cp (Env → List Value)) (s : SetT) (k : Cp KStep) : Cp KStep :=
  ⟨fun c env A => Option.rec none (fun p => Prod.rec (fun v A => k.run c (s.run v env) A) p) (c.call f (xs.run env) A)⟩

/-- The steps that are taken at once. -/
noncomputable def kfast (P : Program) (N : Nat) (s : SetT) (k : Cp KStep) : Op → Option (Cp KStep)
  | .move x | .assign x => match opnd N x with
    | some g => some (kmove g s k)
    | none => none
  | .binOp op t x y _ => match opnd N x, opnd N y with
    | some g, some h => some (kbin (qbin P op t x y) g h s k)
    | _, _ => none
  | .convert t d x => match qconv P t d, opnd N x with
    | some q, some g => some (kun q g s k)
    | _, _ => none
  | .load t x => match opnd N x with
    | some g => some (kload (aload P t) g s k)
    | none => none
  | .fieldAddr t x f => match qfield P t f, opnd N x with
    | some q, some g => some (kun q g s k)
    | _, _ => none
  | .extract x i => match opnd N x with
    | some g => some (kload (fun v _ => aextract i v) g s k)
    | none => none
  | .call { callee := .value (.func f), args, .. } => match opnds N args.toList with
    | some xs => some (kcall f xs s k)
    | none => none
  | .call { callee := .builtin .append, args, argTypes } => match args.toList, argTypes.toList with
    | [x, y], t :: rest => match zerosOf P rest, opnd N x, opnd N y with
      | some z, some g, some h => some (kget2 g h (fappend P t z) s k)
      | _, _, _ => none
    | _, _ => none
  | _ => none

noncomputable def kslow (P : Program) (N : Nat) (ops : List Oper) (o : Oper) (k : Cp KStep) : Cp KStep := match astep P N ops o with
  | none => ⟨fun _ _ _ => none⟩
  | some f => ⟨fun c env A => after (f c env A) fun env A => k.run c env A⟩

noncomputable def kstep (P : Program) (N : Nat) (ops : List Oper) (o : Oper) (k : Cp KStep) : Cp KStep := match o.guard, o.dst with
  | none, some t => bif Nat.ble N t then kslow P N ops o k else (match kfast P N (setC (dt N) t) k o.op with
    | some s => s
    | none => kslow P N ops o k)
  | _, _ => kslow P N ops o k

noncomputable def kseq (P : Program) (N : Nat) (ops : List Oper) (k : Cp KStep) : List Oper → Cp KStep
  | [] => k
  | o :: rest => kstep P N ops o (kseq P N ops k rest)

end Go.AI

/- The interpreter with what comes next handed on is the interpreter. -/
namespace Go.AI

def put2 (N : Nat) (t : Tmp) (k : Cp KStep) (c : Ctx) (env : Env) (r : AR) : Res := match r with
  | some (v, A) => k.run c (Tr.set (dt N) t v env) A
  | none => none

theorem kget_run {g : Cp (Env → Value)} {N : Nat} {t : Tmp} {l : Value → AHeap → Option Value} {k : Cp KStep} {c : Ctx} {env : Env} {A : AHeap} : (kload l g (setC (dt N) t) k).run c env A = put2 N t k c env (only (l (g.run env) A) A) := by
  show (Option.rec none (fun v => k.run c ((setC (dt N) t).run v env) A) (l (g.run env) A) : Res) = _
  cases l (g.run env) A with
  | none => rfl
  | some v => simp only [only, put2, setC_run]

theorem kfast_eq {P : Program} {N : Nat} {t : Tmp} {k q : Cp KStep} {o : Oper} (h : kfast P N (setC (dt N) t) k o.op = some q) : ∃ s f, aoper P N o = some (s, f) ∧ ∀ c env A, q.run c env A = put2 N t k c env (f c env A) := by
  obtain ⟨dst, op, ty, pos, aft, guard⟩ := o
  dsimp only at h
  unfold kfast at h
  split at h
  · split at h
    · rename_i x g hg
      cases h
      exact ⟨_, _, rfl, fun c env A => by simp only [with1, opnd_eq hg, put2, kmove, setC_run]⟩
    · cases h
  · split at h
    · rename_i x g hg
      cases h
      exact ⟨_, _, rfl, fun c env A => by simp only [with1, opnd_eq hg, put2, kmove, setC_run]⟩
    · cases h
  · rename_i op t' x y yt
    split at h
    · rename_i g g' hg hg'
      cases h
      refine ⟨_, _, rfl, fun c env A => ?_⟩
      simp only [with2, opnd_eq hg, opnd_eq hg', kbin, qbin_eq]
      cases fbin P op t' x y (g.run env) (g'.run env) with
      | none => rfl
      | some v => simp only [thenK, only, put2, setC_run]
    · cases h
  · rename_i t' d x
    split at h
    · rename_i q' g hq hg
      cases h
      have hq2 := hq
      unfold qconv at hq2
      split at hq2
      · rename_i j k' hs hd
        refine ⟨.pure, fun _ => with1 N x fun v A => bif flat v then only (pureFlat P (convert t' d v)) A else none, ?_, fun c env A => ?_⟩
        · simp only [aoper, aop, hs, hd]
        · simp only [with1, opnd_eq hg, kun, qconv_eq hq, convSlow]
          cases flat (g.run env) with
          | false => rfl
          | true =>
            simp only [cond_true]
            cases pureFlat P (convert t' d (g.run env)) with
            | none => rfl
            | some v => simp only [thenK, only, put2, setC_run]
      · cases hq2
    · cases h
  · split at h
    · rename_i x g hg
      cases h
      refine ⟨_, _, rfl, fun c env A => ?_⟩
      simp only [with1, opnd_eq hg, kget_run]
    · cases h
  · rename_i t' x f
    split at h
    · rename_i q' g hq hg
      cases h
      refine ⟨_, _, rfl, fun c env A => ?_⟩
      simp only [with1, opnd_eq hg, kun, qfield_eq hq]
      cases afieldAddr P t' f (g.run env) with
      | none => rfl
      | some v => simp only [thenK, only, put2, setC_run]
    · cases h
  · split at h
    · rename_i x i g hg
      cases h
      refine ⟨_, _, rfl, fun c env A => ?_⟩
      simp only [with1, opnd_eq hg, kget_run]
    · cases h
  · rename_i f args ats
    split at h
    · rename_i xs hxs
      cases h
      refine ⟨_, _, rfl, fun c env A => ?_⟩
      have e : acallOp N (.func f) args.toList c env A = c.call f (xs.run env) A := by
        simp [acallOp, aeval, opnds_eq hxs, acallVal]
      rw [e]
      show (Option.rec none (fun p => Prod.rec (fun v A => k.run c ((setC (dt N) t).run v env) A) p) (c.call f (xs.run env) A) : Res) = _
      cases c.call f (xs.run env) A with
      | none => rfl
      | some p => simp only [put2, setC_run]
    · cases h
  · rename_i args ats
    split at h
    · rename_i x y t' rest hx hr
      split at h
      · rename_i z g g' hz hg hg'
        cases h
        refine ⟨.acts, fun _ => with2 N x y (fappend P t' z), ?_, fun c env A => ?_⟩
        · simp only [aoper, aop, hx, hr, hz]
        · simp only [with2, opnd_eq hg, opnd_eq hg']
          show (Option.rec none (fun p => Prod.rec (fun v A => k.run c ((setC (dt N) t).run v env) A) p) (fappend P t' z (g.run env) (g'.run env) A) : Res) = _
          cases fappend P t' z (g.run env) (g'.run env) A with
          | none => rfl
          | some p => simp only [put2, setC_run]
      · cases h
    · cases h
  · cases h

def stepOf (s : Option Step) : Step := match s with
  | some f => f
  | none => fun _ _ _ => none

theorem kslow_eq {P : Program} {N : Nat} {ops : List Oper} {o : Oper} {k : Cp KStep} {c : Ctx} {env : Env} {A : AHeap} : (kslow P N ops o k).run c env A = after (stepOf (astep P N ops o) c env A) (k.run c) := by
  unfold kslow
  cases astep P N ops o <;> rfl

theorem kstep_eq {P : Program} {N : Nat} {ops : List Oper} {o : Oper} {k : Cp KStep} {c : Ctx} {env : Env} {A : AHeap} : (kstep P N ops o k).run c env A = after (stepOf (astep P N ops o) c env A) (k.run c) := by
  unfold kstep
  split
  · rename_i t hg hd
    cases hb : Nat.ble N t with
    | true => exact kslow_eq
    | false =>
      simp only [cond_false]
      split
      · rename_i q hq
        obtain ⟨s, f, h1, h2⟩ := kfast_eq hq
        rw [h2]
        have e : astep P N ops o = some (aguarded (fun _ => true) f (putDst N o.dst)) := by
          unfold astep aguard; rw [hg, h1]
        rw [e]
        simp only [stepOf, aguarded, cond_true]
        cases f c env A with
        | none => rfl
        | some p =>
          simp only [hd, putDst, hb, cond_false, after, put2]
      · exact kslow_eq
  · exact kslow_eq

theorem kseq_eq {P : Program} {N : Nat} {ops : List Oper} {k : Cp KStep} : ∀ (l : List Oper) (c : Ctx) (env : Env) (A : AHeap), (kseq P N ops k l).run c env A = after (aseq P N ops l c env A) (k.run c)
  | [], _, _, _ => rfl
  | o :: rest, c, env, A => by
    unfold kseq
    rw [kstep_eq]
    simp only [aseq]
    cases astep P N ops o with
    | none => rfl
    | some f =>
      simp only [stepOf]
      cases f c env A with
      | none => rfl
      | some p => exact kseq_eq rest c p.1 p.2

/-! ### Code -/

def ktail (k : Cp KStep) (c : Ctx) (r : Res) : Res := match r with
  | some (.normal, env, A) => k.run c env A
  | r => r

def kskip : Cp KStep := ⟨fun _ env A => some (.normal, env, A)⟩

theorem ktail_skip (c : Ctx) (r : Res) : ktail kskip c r = r := by
  unfold ktail
  split <;> rfl

noncomputable def kcond (g : Cp (Env → Value)) (a b : Cp KStep) : Cp KStep := ⟨fun c env A => onBool (g.run env) (a.run c env A) (b.run c env A) none⟩

noncomputable def kcode (P : Program) (N : Nat) (d : Nat) : Code → Cp KStep → Cp KStep :=
  Nat.rec (motive := fun _ => Code → Cp KStep → Cp KStep)
    (fun _ _ => ⟨fun _ _ _ => none⟩)
    (fun _ ih code k => match code with
      | .skip | .label _ => k
      | .region _ ops false => kseq P N ops.toList k ops.toList
      | .region _ ops true => ⟨fun c env A => after ((fdraw P N ops.toList).run c env A) (k.run c)⟩
      | .seq a b => ih a (ih b k)
      | .cond x a b => match opnd N x with
        | some g => kcond g (ih a k) (ih b k)
        | none => ⟨fun _ _ _ => none⟩
      | .block id a => ⟨fun c env A => ktail k c ((fblock id (ih a kskip)).run c env A)⟩
      | .loop a => ⟨fun c env A => ktail k c (aloop ((ih a kskip).run c) c.rounds env A)⟩
      | .exit id => fexit id
      | .ret => fret
      | .rangeFunc x ps assign body => ⟨fun c env A => ktail k c ((frange P (aeval N x) ps assign body).run c env A)⟩
      | _ => ffail) d

theorem aeval_none {N : Nat} {x : Operand} (h : opnd N x = none) (env : Env) : aeval N x env = none := by
  cases x with
  | tmp t =>
    simp only [opnd] at h
    simp only [aeval]
    cases hb : Nat.ble N t with
    | true => rfl
    | false => rw [hb] at h; cases h
  | const v =>
    simp only [opnd] at h
    simp only [aeval]
    cases hb : flat v with
    | true => rw [hb] at h; cases h
    | false => rfl
  | global g => rfl
  | func f => cases h

theorem kcode_eq (P : Program) (N : Nat) : ∀ (d : Nat) (code : Code) (k : Cp KStep) (c : Ctx) (env : Env) (A : AHeap), (kcode P N d code k).run c env A = ktail k c (acode P N d code c env A) := by
  intro d
  induction d with
  | zero => intro code k c env A; rfl
  | succ d ih =>
    intro code k c env A
    have hrun : ∀ a, (kcode P N d a kskip).run = acode P N d a := fun a => by
      funext c env A; rw [ih, ktail_skip]
    cases code with
    | region id ops draw =>
      cases draw with
      | false =>
        show (kseq P N ops.toList k ops.toList).run c env A = ktail k c (stepRes (aseq P N ops.toList ops.toList c env A))
        rw [kseq_eq]
        cases aseq P N ops.toList ops.toList c env A <;> rfl
      | true =>
        show after ((fdraw P N ops.toList).run c env A) (k.run c) = ktail k c (stepRes (adraw P N ops.toList c env A))
        rw [fdraw_eq]
        cases adraw P N ops.toList c env A <;> rfl
    | seq a b =>
      show (kcode P N d a (kcode P N d b k)).run c env A = ktail k c (match acode P N d a c env A with | some (.normal, env, A) => acode P N d b c env A | r => r)
      rw [ih]
      rcases acode P N d a c env A with - | ⟨ex, env', A'⟩
      · rfl
      · cases ex with
        | normal => exact ih b k c env' A'
        | _ => rfl
    | cond x a b =>
      show (match opnd N x with | some g => kcond g (kcode P N d a k) (kcode P N d b k) | none => ⟨fun _ _ _ => none⟩ : Cp KStep).run c env A = ktail k c (match aeval N x env with | some (.bool t) => bif t then acode P N d a c env A else acode P N d b c env A | _ => none)
      cases hg : opnd N x with
      | none => simp only [aeval_none hg]; rfl
      | some g =>
        simp only [opnd_eq hg, kcond, onBool_eq, ih]
        cases g.run env with
        | bool t => cases t <;> rfl
        | _ => rfl
    | block id a =>
      show ktail k c ((fblock id (kcode P N d a kskip)).run c env A) = _
      unfold fblock; rw [hrun]; rfl
    | loop a =>
      show ktail k c (aloop ((kcode P N d a kskip).run c) c.rounds env A) = _
      rw [hrun]; rfl
    | exit id => rfl
    | ret => rfl
    | rangeFunc x ps assign body => rfl
    | _ => rfl

noncomputable def kbody (P : Program) (fn : Func) (c : Code) : Cp (Ctx → List Value → AHeap → AR) :=
  bif Nat.ble fn.ntmps 256 then
    ⟨fun ctx args A => bif Nat.ble args.length fn.ntmps then (match (kcode P fn.ntmps CD c kskip).run ctx (envOf fn.ntmps args) A with
    | some (.exit _, _, _) => none
    | some (_, env, A) => match aresults P fn.ntmps env A fn.results.toList with
      | some vs => some (packed vs, A)
      | none => none
    | none => none) else none⟩
  else ⟨fun _ _ _ => none⟩

theorem kbody_eq (P : Program) (fn : Func) (c : Code) : (kbody P fn c).run = abody P fn c := by
  have hrun : (kcode P fn.ntmps CD c kskip).run = acode P fn.ntmps CD c := by
    funext c env A; rw [kcode_eq, ktail_skip]
  unfold kbody abody
  dsimp only
  cases Nat.ble fn.ntmps 256 with
  | false => rfl
  | true =>
    simp only [cond_true, hrun]
    rfl

noncomputable def kenterC (P : Program) (f : FuncId) : Cp ((FuncId → Ctx) → List Value → AHeap → AR) := match P.funcs[f]? with
  | some fn => match fn.body with
    | some c => ⟨fun ctx args A => (kbody P fn c).run (ctx f) args A⟩
    | none => ⟨fun _ _ _ => none⟩
  | none => ⟨fun _ _ _ => none⟩

noncomputable def kenter (P : Program) (orc : Oracle) (f : FuncId) : Cp ((FuncId → Ctx) → List Value → AHeap → AR) :=
  match orc f with
  | some g => ⟨fun _ args A => g args A⟩
  | none => kenterC P f

theorem kenter_eq (P : Program) (orc : Oracle) (f : FuncId) : (kenter P orc f).run = aenter P orc f := by
  unfold kenter aenter kenterC
  cases orc f with
  | some g => rfl
  | none =>
    cases P.funcs[f]? with
    | none => rfl
    | some fn =>
      dsimp only
      cases fn.body with
      | none => rfl
      | some c => simp only [kbody_eq]

noncomputable def kround (P : Program) (ctx : FuncId → Ctx) (l : Nat) (args : List Value) (A : AHeap) : AR :=
  match A.get l with
  | some (.loop r) => match P.funcs[r.fn]? with
    | none => none
    | some fn => bif !(Nat.ble fn.ntmps 256) then none else
      match laidIn fn.ntmps r.params.toList args r.env with
      | none => none
      | some env0 => match (kcode P fn.ntmps CD r.assign kskip).run (ctx r.fn) env0 A with
        | some (.normal, env, A) => match A.get l with
          | some (.loop r1) => bif r1.st == .ready then
              (match (kcode P fn.ntmps CD r.body kskip).run (ctx r.fn) env (A.put l (some (.loop { r1 with st := .busy }))) with
              | some (ex, _, A) => match A.get l with
                | some (.loop r2) =>
                  (match ex with
                  | .normal => some (.bool true, A.put l (some (.loop { r2 with st := .ready, pending := none })))
                  | .ret => some (.bool false, A.put l (some (.loop { r2 with st := .done, pending := some .ret })))
                  | .exit id => some (.bool false, A.put l (some (.loop { r2 with st := .done, pending := some (.exit id) }))))
                | _ => none
              | none => none) else none
          | _ => none
        | _ => none
  | _ => none

theorem kround_eq (P : Program) : kround P = around P := by
  have hrun : ∀ N c, (kcode P N CD c kskip).run = acode P N CD c := fun N c => by
    funext c env A; rw [kcode_eq, ktail_skip]
  funext ctx l args A
  unfold kround around
  simp only [hrun]
  rfl

noncomputable def kcalls (P : Program) (orc : Oracle) (n : Nat) : Cp ((FuncId → List Value → AHeap → AR) × (Nat → List Value → AHeap → AR)) :=
  Nat.rec (motive := fun _ => Cp ((FuncId → List Value → AHeap → AR) × (Nat → List Value → AHeap → AR)))
    ⟨(fun _ _ _ => none, fun _ _ _ => none)⟩
    (fun _ ih => ⟨(fun f args A => (kenter P orc f).run (fun fn => { call := ih.run.1, round := ih.run.2, rounds := 100000, fn, around := none }) args A,
      fun l args A => kround P (fun fn => { call := ih.run.1, round := ih.run.2, rounds := 100000, fn, around := some l }) l args A)⟩) n

theorem kcalls_eq (P : Program) (orc : Oracle) : ∀ n, (kcalls P orc n).run = acalls P orc n
  | 0 => rfl
  | n + 1 => by
    have ih := kcalls_eq P orc n
    show (fun f args A => (kenter P orc f).run (fun fn => { call := (kcalls P orc n).run.1, round := (kcalls P orc n).run.2, rounds := 100000, fn, around := none }) args A,
      fun l args A => kround P (fun fn => { call := (kcalls P orc n).run.1, round := (kcalls P orc n).run.2, rounds := 100000, fn, around := some l }) l args A) = _
    rw [ih]
    simp only [kenter_eq, kround_eq]
    rfl

noncomputable def kcall' (P : Program) (orc : Oracle) (n : Nat) (f : FuncId) (args : List Value) (A : AHeap) : AR := (kcalls P orc n).run.1 f args A

theorem kcall_eq (P : Program) (orc : Oracle) (n : Nat) : kcall' P orc n = fcall P orc n := by
  rw [fcall_eq]
  funext f args A
  unfold kcall' acall
  rw [kcalls_eq]

end Go.AI

/- A call that was reckoned once, told of every heap that holds the same there. -/
namespace Go.AI
open Go.RowKit

structure Memo where
  next : Nat
  args : List Value
  objs : List (Nat × AObj)
  res : Value
  next' : Nat

def memoTab (l : List (Nat × AObj)) (t : Tr (Option RObj)) : Tr (Option RObj) := match l with
  | [] => t
  | p :: l => memoTab l (t.set HD p.1 (some (.obj p.2)))

def Memo.heap (m : Memo) : AHeap := { next := m.next, tab := memoTab m.objs (.leaf none) }

def holds (A : AHeap) : List (Nat × AObj) → Bool
  | [] => true
  | p :: l => sameObj (A.get p.1) (some p.2) && holds A l

def Memo.check (m : Memo) (r : AR) : Bool := match r with
  | some (v, A) => veq v m.res && (Nat.beq A.next m.next' && holds A m.objs)
  | none => false

def Memo.fits (m : Memo) (args : List Value) (A : AHeap) : Bool := Nat.beq A.next m.next && veqs args m.args && holds A m.objs

def Memo.fn (m : Memo) : List Value → AHeap → AR := fun args A => bif m.fits args A then some (m.res, { next := m.next', tab := A.tab }) else none

theorem holds_get {A : AHeap} : ∀ {l : List (Nat × AObj)}, holds A l = true → ∀ p, p ∈ l → A.get p.1 = some p.2
  | [], _, p, hp => by cases hp
  | q :: l, h, p, hp => by
    simp only [holds, Bool.and_eq_true] at h
    rcases List.mem_cons.1 hp with rfl | hp
    · exact sameObj_eq h.1
    · exact holds_get h.2 p hp

theorem memoTab_eq {A : AHeap} : ∀ {l : List (Nat × AObj)}, holds A l = true → ∀ t, memoTab l t = (l.map (·.1)).foldl (fun t k => t.set HD k (RObj.of (A.get k))) t
  | [], _, _ => rfl
  | q :: l, h, t => by
    have hq := holds_get h q (by simp)
    simp only [holds, Bool.and_eq_true] at h
    simp only [memoTab, List.map_cons, List.foldl_cons, hq, RObj.of]
    exact memoTab_eq h.2 _

theorem memo_ok {P : Program} (hmix : P.follows .mixedOrders = true) (hnames : namesOK P = true) {orc : Oracle} (horc : OrcOK P orc) {n : Nat} {f : FuncId} (m : Memo) (h : m.check (fcall P orc n f m.args m.heap) = true)
    (args : List Value) (A : AHeap) (v : Value) (A2 : AHeap) (hm : m.fn args A = some (v, A2)) (ρ : Emb) (w : World) (args' : List Value) (hh : HR P ρ A w) (hv : VRs ρ args args') : CallOK P ρ A w f args' v A2 := by
  unfold Memo.fn at hm
  cases hf : m.fits args A with
  | false => rw [hf] at hm; cases hm
  | true =>
  rw [hf] at hm
  simp only [cond_true, Option.some.injEq, Prod.mk.injEq] at hm
  obtain ⟨rfl, rfl⟩ := hm
  simp only [Memo.fits, Bool.and_eq_true] at hf
  obtain ⟨⟨f1, f2⟩, f3⟩ := hf
  have e1 := Nat.eq_of_beq_eq_true f1
  have e2 := veqs_eq f2
  have hB : m.heap = restrict A (m.objs.map (·.1)) := by
    unfold Memo.heap restrict
    rw [memoTab_eq f3, e1]
  have hk : ∀ k, k ∈ m.objs.map (·.1) → k < hcap := fun k hk => by
    obtain ⟨p, hp, rfl⟩ := List.mem_map.1 hk
    exact AHeap.lt_of_get (holds_get f3 p hp)
  have hbs : ∀ j, (restrict A (m.objs.map (·.1))).get j = none ∨ (restrict A (m.objs.map (·.1))).get j = A.get j := fun j => by
    rw [restrict_get hk]; split
    · exact .inr rfl
    · exact .inl rfl
  have hRB : HR P ρ (restrict A (m.objs.map (·.1))) w := hh.sub rfl hbs
  unfold Memo.check at h
  split at h
  case h_2 => cases h
  rename_i v0 B' hc
  simp only [Bool.and_eq_true] at h
  obtain ⟨c1, c3, c4⟩ := h
  have e3 := veq_eq c1
  have e4 := Nat.eq_of_beq_eq_true c3
  rw [fcall_eq, hB, ← e2] at hc
  have settle : ∀ (ρ' : Emb) (w' : World), HR P ρ' B' w' → Ext A.next ρ (restrict A (m.objs.map (·.1))) w ρ' B' w' → HR P ρ' { next := m.next', tab := A.tab } w' ∧ Ext A.next ρ A w ρ' { next := m.next', tab := A.tab } w' := by
    intro ρ' w' q2 q3
    refine settle_ok (A2 := { next := m.next', tab := A.tab }) hh (B := restrict A (m.objs.map (·.1))) rfl hbs q2 q3 (fun j hj => ?_) e4.symm (fun j _ => rfl) (fun j hj => ?_)
    · rw [restrict_get hk] at hj
      split at hj
      · rename_i hjk
        obtain ⟨p, hp, rfl⟩ := List.mem_map.1 hjk
        rw [holds_get c4 p hp, holds_get f3 p hp]
      · exact absurd rfl hj
    · left; exact hh.top j hj
  rcases acall_ok hmix hnames horc hc hRB hv with ⟨k1, k2⟩ | ⟨k1, v', w', k2, k3⟩
  · refine .inl ⟨k1, k2.mono ?_⟩
    rintro e w' ⟨v', rfl, ρ', q1, q2, q3⟩
    obtain ⟨s1, s2⟩ := settle ρ' w' q2 q3
    exact ⟨v', rfl, ρ', by rw [← e3]; exact q1, s1, s2⟩
  · obtain ⟨ρ', q1, q2, q3⟩ := k3
    obtain ⟨s1, s2⟩ := settle ρ' w' q2 q3
    exact .inr ⟨k1, v', w', k2, ρ', by rw [← e3]; exact q1, s1, s2⟩

end Go.AI

/- What a row asks behind a call that leaves all that there was. -/
namespace Go.AI
open Go.ChangeShapes Go.WideShapes Go.RowKit

theorem post_of_left {H : Type} {enc : TypeId × Value → H} {P : Program} {f : Func} {s : ChangeSpec} {apart fresh handsOn again : Bool} {W W' : World} {args : Array Value} {v : Value} {ds gs : List (DataW H)} {before pa pv : List MemPlace}
    (hW : DataW.Whole enc P f.params.toList s.vars apart W args.toList ds gs before)
    (hres : ∀ (b : Nat) (sp : Nat → Bool) (hd : Bool), DataW.TrodAll enc P W' b sp hd f.resultTypes.toList (v.resultList f.resultTypes.size) (s.fn H (ds ++ gs)).results [])
    (hargs : ∀ sp : Nat → Bool, (∀ p ∈ before, sp p.block = true) → DataW.TrodAll enc P W' 0 sp true f.params.toList args.toList (s.fn H (ds ++ gs)).args pa)
    (hvars : ∀ sp : Nat → Bool, (∀ p ∈ before, sp p.block = true) → DataW.TrodVars enc P W' sp s.vars (s.fn H (ds ++ gs)).vars pv)
    (hps : before = pa ++ pv) (hB : Below W.heap.size W W')
    (hok : ∀ (j : Nat) (t : TypeId) (r : Value), f.resultTypes[j]? = some t → (v.resultList f.resultTypes.size)[j]? = some r → Value.okWide P W' .any 0 t r) :
    s.post enc P f apart fresh handsOn again W args v W' := by
  have hlt := hW.lt
  have hold : ∀ p ∈ before, (fun b => decide (b < W.heap.size)) p.block = true := fun p hp => by simpa using hlt p hp
  refine ⟨ds, gs, before, [], pa, pv, hW, hres _ _ _, hargs _ hold, hvars _ hold, hB.frame _, fun _ => ?_⟩
  obtain ⟨_, _, _, _, _, hz, hn⟩ := hW
  refine ⟨hok, _, _, ([] ++ pa) ++ pv, ⟨[] ++ pa, pv, trodAll_append (hargs _ (fun _ _ => rfl)) (hres _ _ _), hvars _ (fun _ _ => rfl), rfl, ?_, ?_⟩, ?_⟩
  · intro b off hp
    have hp2 : MemPlace.cell b off ∈ before := by rw [hps]; simpa using hp
    rw [hB.frozen (hlt _ hp2)]
    exact hz b off hp2
  · intro ha
    have := hn ha
    rw [hps] at this
    simpa using this
  · intro p hp _
    rw [hps]
    simpa using hp

end Go.AI
