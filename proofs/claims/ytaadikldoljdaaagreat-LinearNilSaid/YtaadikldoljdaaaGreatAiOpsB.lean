/- Proved: operations of the reading are the model's, the second part; each under the conditions that its theorem names. -/
import Derived.Test.YtaadikldoljdaaaGreatAiOpsA
import Derived.Laws.Append

/- What each operation does, part seven: the operations that turn memory: stores, maps, iterators. -/
namespace Go.AI

def ActsOK (P : Program) (N : Nat) (op : Op) (ty : TypeId) (f : Env → AHeap → AR) : Prop :=
  ∀ env A v A', f env A = some (v, A') → ∀ (ρ : Emb) (w : World) (act : Act) (o : Oper), HR P ρ A w → o.op = op → o.type = ty → OpR ρ N env act op.operands.toList →
    ∃ (res : Next) (v' : Value) (w' : World) (ρ' : Emb), (execOp act.eval o).run P w = .ok res w' ∧ (res = .value v' ∨ res = .skip ∧ v' = undef) ∧ VR ρ' v v' ∧ HR P ρ' A' w' ∧ Ext A.next ρ A w ρ' A' w'

theorem undefR_some {x : Option AHeap} {v : Value} {B : AHeap} (h : undefR x = some (v, B)) : x = some B ∧ v = .tuple #[] := by
  unfold undefR at h; split at h
  · cases h; exact ⟨rfl, rfl⟩
  · cases h

theorem undef_rel (ρ : Emb) : VR ρ (.tuple #[]) undef := .tuple .nil

section
variable {P : Program} {N : Nat} {ρ : Emb} {A : AHeap} {w : World}

theorem store_ok (t : TypeId) (a x : Operand) (ty : TypeId) : ActsOK P N (.store t a x) ty (with2 N a x fun p v A => undefR (astore P t p v A)) := by
  intro env A v A' he ρ w act o hh e1 e2 hr
  obtain ⟨p, u, h1, h2, h3⟩ := with2_some he
  obtain ⟨h4, rfl⟩ := undefR_some h3
  unfold astore at h4
  cases hs : sizeAt P t with
  | none => simp [hs] at h4
  | some n =>
    simp only [hs] at h4
    have rp := hr a (by simp [Op.operands]) _ h1
    have ru := hr x (by simp [Op.operands]) _ h2
    split at h4
    · rename_i ad
      simp only [Bool.cond_eq_ite] at h4
      split at h4
      · rename_i hb
        have hb := beq_iff.1 hb
        generalize hp : act.eval a = p' at rp
        cases rp with
        | ptr had => cases had with
          | @mk l hsp hl =>
            obtain ⟨w', r1, r2, r3⟩ := hh.write (P := P) hl ru.cells h4
            refine ⟨.skip, undef, w', ρ, ?_, .inr ⟨rfl, rfl⟩, undef_rel ρ, r2, r3⟩
            have hlen : (act.eval x).cells.size = n := by
              have := ru.cells.length
              simp only [cellsOf, Array.length_toList] at this hb; omega
            have r1' : (storeCells (l.at ad) (act.eval x).cells.toList).run P w = .ok () w' := r1
            simp [execOp, e1, hp, Instr.storeAt, Instr.sureAddr, storeVar, run_sizeOf hs, hlen, r1']
      · cases h4
    · cases h4

theorem ESR.length {es es' : List MapEntry} (h : ESR ρ es es') : es'.length = es.length := by induction h <;> simp_all

theorem ESR.append {a a' b b' : List MapEntry} (h : ESR ρ a a') (k : ESR ρ b b') : ESR ρ (a ++ b) (a' ++ b') := by
  induction h with
  | nil => exact k
  | cons hk hv _ ih => exact .cons hk hv ih

theorem ESR.get {es es' : List MapEntry} (h : ESR ρ es es') : ∀ {i : Nat} {e : MapEntry}, es[i]? = some e → ∃ e', es'[i]? = some e' ∧ flat e.key = true ∧ e'.key = e.key ∧ e'.born = e.born ∧ VR ρ e.val e'.val := by
  induction h with
  | nil => intro i e h; simp at h
  | @cons k v v' b l l' hk hv _ ih => intro i e h; cases i with
    | zero => simp at h; subst h; exact ⟨⟨k, v', b⟩, rfl, hk, rfl, rfl, hv⟩
    | succ i => exact ih (by simpa using h)

theorem ESR.setAt {f f' : MapEntry → MapEntry} (hf : ∀ (k v v' : Value) (b : Nat), flat k = true → VR ρ v v' → flat (f ⟨k, v, b⟩).key = true ∧ (f' ⟨k, v', b⟩).key = (f ⟨k, v, b⟩).key ∧ (f' ⟨k, v', b⟩).born = (f ⟨k, v, b⟩).born ∧ VR ρ (f ⟨k, v, b⟩).val (f' ⟨k, v', b⟩).val)
    {es es' : List MapEntry} (h : ESR ρ es es') : ∀ i : Nat, ESR ρ (AI.setAt f i es) (AI.setAt f' i es') := by
  induction h with
  | nil => intro i; cases i <;> exact .nil
  | @cons k v v' b l l' hk hv hl ih =>
    intro i
    cases i with
    | zero =>
      obtain ⟨h1, h2, h3, h4⟩ := hf k v v' b hk hv
      simp only [AI.setAt]
      generalize f ⟨k, v, b⟩ = x at *
      generalize f' ⟨k, v', b⟩ = y at *
      cases x; cases y
      dsimp only at h1 h2 h3 h4
      subst h2; subst h3
      exact .cons h1 h4 hl
    | succ i => exact .cons hk hv (ih i)

theorem modify_setAt (f : MapEntry → MapEntry) : ∀ (l : List MapEntry) (i : Nat), l.modify i f = AI.setAt f i l
  | [], i => by cases i <;> rfl
  | x :: l, 0 => by simp [AI.setAt]
  | x :: l, i + 1 => by simp [AI.setAt, modify_setAt f l i]

theorem ESR.erase {es es' : List MapEntry} (h : ESR ρ es es') : ∀ i : Nat, ESR ρ (es.eraseIdx i) (es'.eraseIdx i) := by
  induction h with
  | nil => intro i; exact .nil
  | cons hk hv hl ih => intro i; cases i with
    | zero => exact hl
    | succ i => exact .cons hk hv (ih i)

/-- A map is turned, here and there. -/
theorem HR.turnMap (hh : HR P ρ A w) {r : Nat} {l : Loc} (hl : ρ r = some l) {es : List MapEntry} {clock : Nat} (hm : mapAt A r = some (es, clock)) {es2 : List MapEntry} {es2' : Array MapEntry} {c2 : Nat} (h2 : ESR ρ es2 es2'.toList) :
    HR P ρ (A.put r (some (.map es2 c2))) { w with heap := w.heap.setIfInBounds l.blk (.map es2' c2) } ∧ Ext A.next ρ A w ρ (A.put r (some (.map es2 c2))) { w with heap := w.heap.setIfInBounds l.blk (.map es2' c2) } := by
  obtain ⟨es', hg, ho, hes⟩ := hh.map hl hm
  have hlt := AHeap.lt_of_get hg
  have hb := (hh.dom _ _ hl).2
  refine hh.turn hl (o := .map es2 c2) (o' := .map es2' c2) (by rw [hg]; simp) ⟨rfl, AHeap.get_put_same A _ hlt, fun j hj => AHeap.get_put_ne A _ hlt (Ne.symm hj)⟩ ⟨by simp, by simp [hb], fun j hj => by simp [Array.getElem?_setIfInBounds_ne (Ne.symm hj)]⟩ ⟨rfl, rfl, rfl⟩ (.map h2)

theorem sameNow_flat {kind : TypeDesc} {a b : Value} (h : Instr.sameNow kind a b = some true) (n : Nat) : Instr.sameBits n b a = true := by
  unfold Instr.sameNow at h
  split at h
  · split at h
    · rename_i he; subst he
      simp only [Option.some.injEq, beq_iff_eq] at h
      subst h; simp [Instr.sameBits]
    · cases h
  · rename_i x y
    have h2 : (x.data == y.data) = true := by simp only [Option.some.injEq] at h; exact h
    have h3 : x.data = y.data := beq_iff_eq.1 h2
    have h4 : Instr.sameBits n (.string y) (.string x) = (y.data == x.data) := by cases n <;> rfl
    rw [h4, h3]; simp
  · simp only [Option.some.injEq, beq_iff_eq] at h; subst h; simp [Instr.sameBits]
  · cases h

theorem findNow_key {kind : TypeDesc} {key : Value} : ∀ {es : List MapEntry} (i : Nat) {j : Nat} {v : Value}, Instr.findNow kind key es i = some (some (j, v)) → i ≤ j ∧ ∃ e, es[j - i]? = some e ∧ e.val = v ∧ Instr.sameNow kind key e.key = some true
  | [], i, j, v, h => by simp [Instr.findNow] at h
  | e :: es, i, j, v, h => by
    unfold Instr.findNow at h
    split at h
    · cases h; exact ⟨Nat.le_refl _, e, by simp, rfl, ‹_›⟩
    · obtain ⟨h1, e', h2, h3, h4⟩ := findNow_key (i + 1) h
      refine ⟨by omega, e', ?_, h3, h4⟩
      rw [show j - i = (j - (i + 1)) + 1 by omega]; simpa using h2
    · cases h

theorem keyStays_run {kind : TypeDesc} {key old : Value} (h : Instr.sameNow kind key old = some true) (w : World) : (Instr.keyThatStays old key).run P w = .ok key w := by
  simp [Instr.keyThatStays, sameNow_flat h]

/-- A store into a map. -/
theorem mapUpdate_run (hh : HR P ρ A w) {t : TypeId} {m m' key v v' : Value} (hm : VR ρ m m') (hv : VR ρ v v') {B : AHeap} (hg : amapUpdate P t m key v A = some B) {key' : Value} (hk0 : VR ρ key key') :
    ∃ w', (Instr.mapUpdate t m' key' v').run P w = .ok () w' ∧ HR P ρ B w' ∧ Ext A.next ρ A w ρ B w' := by
  unfold amapUpdate at hg
  cases hu : P.underlying t with
  | none => simp [hu] at hg
  | some d =>
  rw [hu] at hg
  cases d with
  | map k e =>
    dsimp only at hg
    cases hk : keyKind P k with
    | none => simp [hk] at hg
    | some kind =>
      simp only [hk] at hg
      split at hg
      · rename_i r
        split at hg
        · rename_i es clock hma
          simp only [Bool.cond_eq_ite] at hg
          split at hg
          · rename_i hf
            have ek := hk0.flat_eq hf
            subst ek
            cases hm with
            | @map _ l hl =>
              obtain ⟨es', hge, ho, hes⟩ := hh.map hl hma
              have hget := getObj_run (P := P) ho (by simp)
              split at hg
              · rename_i i u hfn
                cases hg
                rcases findNow_rel 0 hes hfn with ⟨h1, _⟩ | ⟨i', u', u2, h1, h2, h3⟩
                · cases h1
                · cases h1
                  obtain ⟨_, e2, q1, q2, q3⟩ := findNow_key 0 h2
                  simp only [Nat.sub_zero] at q1
                  have hes2 : ESR ρ (AI.setAt (fun e => { e with key := key', val := v }) i es) (es'.modify i fun e => { e with key := key', val := v' }).toList := by
                    rw [Array.toList_modify, modify_setAt]
                    exact hes.setAt (fun _ _ _ _ _ _ => ⟨hf, rfl, rfl, hv⟩) i
                  have ht := hh.turnMap hl hma (c2 := clock) hes2
                  have q1' : es'[i]? = some e2 := by simpa using q1
                  refine ⟨_, ?_, ht.1, ht.2⟩
                  simp only [Instr.mapUpdate, Sem.run_bind, run_underlying hu, Result.andThen_ok, hget, checkKey_run hk, findKey_run hk h2, q1', Option.map_some, Option.getD_some, keyStays_run q3]
                  exact setObj_run ho (by simp)
              · rename_i hfn
                cases hg
                rcases findNow_rel 0 hes hfn with ⟨_, h2⟩ | ⟨i', u', u2, h1, h2, h3⟩
                · have hes2 : ESR ρ (es ++ [⟨key', v, clock⟩]) (es'.push ⟨key', v', clock⟩).toList := by
                    rw [Array.toList_push]; exact hes.append (.cons hf hv .nil)
                  have ht := hh.turnMap hl hma (c2 := clock + 1) hes2
                  refine ⟨_, ?_, ht.1, ht.2⟩
                  simp only [Instr.mapUpdate, Sem.run_bind, run_underlying hu, Result.andThen_ok, hget, checkKey_run hk, findKey_run hk h2]
                  exact setObj_run ho (by simp)
                · cases h1
              · cases hg
          · cases hg
        · cases hg
      · cases hg
  | _ => simp at hg

theorem mapUpdate_ok (t : TypeId) (m k x : Operand) (ty : TypeId) : ActsOK P N (.mapUpdate t m k x) ty (with3 N m k x fun m k v A => undefR (amapUpdate P t m k v A)) := by
  intro env A v A' he ρ w act o hh e1 e2 hr
  obtain ⟨a, b, c, h1, h2, h3, h4⟩ := with3_some he
  obtain ⟨h5, rfl⟩ := undefR_some h4
  obtain ⟨w', r1, r2, r3⟩ := mapUpdate_run (P := P) hh (hr m (by simp [Op.operands]) _ h1) (hr x (by simp [Op.operands]) _ h3) h5 (hr k (by simp [Op.operands]) _ h2)
  exact ⟨.skip, undef, w', ρ, by simp [execOp, e1, r1], .inr ⟨rfl, rfl⟩, undef_rel ρ, r2, r3⟩

theorem insert_ok (t : TypeId) (m k x : Operand) (ty : TypeId) : ActsOK P N (.insert t m k x) ty (with3 N m k x fun m k v A => undefR (amapUpdate P t m k v A)) := by
  intro env A v A' he ρ w act o hh e1 e2 hr
  obtain ⟨a, b, c, h1, h2, h3, h4⟩ := with3_some he
  obtain ⟨h5, rfl⟩ := undefR_some h4
  obtain ⟨w', r1, r2, r3⟩ := mapUpdate_run (P := P) hh (hr m (by simp [Op.operands]) _ h1) (hr x (by simp [Op.operands]) _ h3) h5 (hr k (by simp [Op.operands]) _ h2)
  exact ⟨.skip, undef, w', ρ, by simp [execOp, e1, r1], .inr ⟨rfl, rfl⟩, undef_rel ρ, r2, r3⟩

theorem delete_ok (t : TypeId) (m k : Operand) (ats : List TypeId) (ty : TypeId) : ActsOK P N (.call { callee := .builtin .delete, args := ⟨[m, k]⟩, argTypes := ⟨t :: ats⟩ }) ty (with2 N m k fun m k A => undefR (adelete P t m k A)) := by
  intro env A v A' he ρ w act o hh e1 e2 hr
  obtain ⟨a, b, h1, h2, h3⟩ := with2_some he
  obtain ⟨h5, rfl⟩ := undefR_some h3
  have rm := hr m (by simp [Op.operands, Call.operands]) _ h1
  have rk := hr k (by simp [Op.operands, Call.operands]) _ h2
  have main : ∃ w', (Builtin.delete_ ⟨t :: ats⟩ ty #[act.eval m, act.eval k]).run P w = .ok (.tuple #[]) w' ∧ HR P ρ A' w' ∧ Ext A.next ρ A w ρ A' w' := by
    generalize act.eval m = m' at rm
    generalize act.eval k = k' at rk
    unfold adelete at h5
    cases hu : P.underlying t with
    | none => simp [hu] at h5
    | some d =>
    rw [hu] at h5
    cases d with
    | map kt e =>
      dsimp only at h5
      cases hk : keyKind P kt with
      | none => simp [hk] at h5
      | some kind =>
        simp only [hk] at h5
        split at h5
        · cases rm
          simp only [Bool.cond_eq_ite] at h5
          split at h5
          · cases h5
            exact ⟨w, by simp [Builtin.delete_, run_underlying hu, checkKey_run hk], hh, .refl _ _ _ _⟩
          · cases h5
        · rename_i r
          split at h5
          · rename_i es clock hma
            simp only [Bool.cond_eq_ite] at h5
            split at h5
            · rename_i hf
              have ek := rk.flat_eq hf
              subst ek
              cases rm with
              | @map _ l hl =>
                obtain ⟨es', hge, ho, hes⟩ := hh.map hl hma
                have hget := getObj_run (P := P) ho (by simp)
                split at h5
                · rename_i i u hfn
                  cases h5
                  rcases findNow_rel 0 hes hfn with ⟨h1, _⟩ | ⟨i', u', u2, h1, h2, h3⟩
                  · cases h1
                  · cases h1
                    have hes2 : ESR ρ (es.eraseIdx i) (es'.eraseIdxIfInBounds i).toList := by
                      rw [Array.toList_eraseIdxIfInBounds]; exact hes.erase i
                    have ht := hh.turnMap hl hma (c2 := clock) hes2
                    refine ⟨_, ?_, ht.1, ht.2⟩
                    simp [Builtin.delete_, run_underlying hu, hget, checkKey_run hk, findKey_run hk h2, setObj_run (P := P) ho (by simp)]
                · rename_i hfn
                  cases h5
                  rcases findNow_rel 0 hes hfn with ⟨_, h2⟩ | ⟨i', u', u2, h1, h2, h3⟩
                  · have ht := hh.turnMap hl hma (c2 := clock) hes
                    have hsame : A.get r = some (.map es clock) := hge
                    refine ⟨{ w with heap := w.heap.setIfInBounds l.blk (.map es' clock) }, ?_, ?_⟩
                    · simp [Builtin.delete_, run_underlying hu, hget, checkKey_run hk, findKey_run hk h2, setObj_run (P := P) ho (by simp)]
                    · have hw : ({ w with heap := w.heap.setIfInBounds l.blk (.map es' clock) } : World) = w := by
                        have : w.heap.setIfInBounds l.blk (.map es' clock) = w.heap := by
                          apply Array.ext_getElem?
                          intro j
                          by_cases hj : j = l.blk
                          · subst hj; rw [ho]; simp [(hh.dom _ _ hl).2]
                          · rw [Array.getElem?_setIfInBounds_ne (Ne.symm hj)]
                        rw [this]
                      rw [hw]; exact ⟨hh, .refl _ _ _ _⟩
                  · cases h1
                · cases h5
            · cases h5
          · cases h5
        · cases h5
    | _ => simp at h5
  obtain ⟨w', r1, r2, r3⟩ := main
  exact ⟨.value (.tuple #[]), .tuple #[], w', ρ, by simp [execOp, e1, e2, resolve, invoke, builtin, r1], .inl rfl, .tuple .nil, r2, r3⟩

end
end Go.AI

/- What each operation does, part eight: entries, iterators, append, copy, clear. -/
namespace Go.AI

section
variable {P : Program} {N : Nat} {ρ : Emb} {A : AHeap} {w : World}

theorem mapEntry_ok (t : TypeId) (m k : Operand) (ty : TypeId) : ActsOK P N (.mapEntry t m k) ty (with2 N m k (amapEntry P t)) := by
  intro env A v A' he ρ w act o hh e1 e2 hr
  obtain ⟨a, b, h1, h2, h3⟩ := with2_some he
  have rm := hr m (by simp [Op.operands]) _ h1
  have rk := hr k (by simp [Op.operands]) _ h2
  have main : ∃ v' w', (Instr.mapEntry t (act.eval m) (act.eval k)).run P w = .ok v' w' ∧ VR ρ v v' ∧ HR P ρ A' w' ∧ Ext A.next ρ A w ρ A' w' := by
    generalize act.eval m = m' at rm
    generalize act.eval k = k' at rk
    unfold amapEntry at h3
    cases hu : P.underlying t with
    | none => simp [hu] at h3
    | some d =>
    rw [hu] at h3
    cases d with
    | map kt e =>
      dsimp only at h3
      cases hk : keyKind P kt with
      | none => simp [hk] at h3
      | some kind =>
        cases hz : zeroOf P e with
        | none => simp [hk, hz] at h3
        | some z =>
        obtain ⟨z1, z2⟩ := zeroOf_eq hz
        simp only [hk, hz] at h3
        split at h3
        · rename_i r
          split at h3
          · rename_i es clock hma
            simp only [Bool.cond_eq_ite] at h3
            split at h3
            · rename_i hf
              have ek := rk.flat_eq hf
              subst ek
              cases rm with
              | @map _ l hl =>
                obtain ⟨es', hge, ho, hes⟩ := hh.map hl hma
                have hget := getObj_run (P := P) ho (by simp)
                split at h3
                · rename_i i u hfn
                  split at h3
                  · rename_i en hen
                    cases h3
                    rcases findNow_rel 0 hes hfn with ⟨h1, _⟩ | ⟨i', u', u2, h1, h2, h3⟩
                    · cases h1
                    · cases h1
                      obtain ⟨_, e2, q1, q2, q3⟩ := findNow_key 0 h2
                      simp only [Nat.sub_zero] at q1
                      have q1' : es'[i]? = some e2 := by simpa using q1
                      rw [nth_eq] at hen
                      obtain ⟨e3, p1, _, _, p4, _⟩ := hes.get hen
                      rw [q1] at p1; cases p1
                      have hes2 : ESR ρ (AI.setAt (fun e => { e with key := k' }) i es) (es'.modify i fun e => { e with key := k' }).toList := by
                        rw [Array.toList_modify, modify_setAt]
                        exact hes.setAt (fun _ _ _ _ _ hv => ⟨hf, rfl, rfl, hv⟩) i
                      have ht := hh.turnMap hl hma (c2 := clock) hes2
                      refine ⟨.tuple #[u2, goInt e2.born], _, ?_, .tuple (.cons h3 (.cons (by rw [p4]; exact .int _ _) .nil)), ht.1, ht.2⟩
                      simp only [Instr.mapEntry, Sem.run_bind, run_underlying hu, Result.andThen_ok, hget, checkKey_run hk, findKey_run hk h2, q1', Option.map_some, Option.getD_some, keyStays_run q3]
                      rw [setObj_run ho (by simp)]; rfl
                  · cases h3
                · rename_i hfn
                  cases h3
                  rcases findNow_rel 0 hes hfn with ⟨_, h2⟩ | ⟨i', u', u2, h1, h2, h3⟩
                  · have hes2 : ESR ρ (es ++ [⟨k', z, clock⟩]) (es'.push ⟨k', z, clock⟩).toList := by
                      rw [Array.toList_push]; exact hes.append (.cons hf (.of_flat z1) .nil)
                    have ht := hh.turnMap hl hma (c2 := clock + 1) hes2
                    refine ⟨.tuple #[z, goInt clock], _, ?_, .tuple (.cons (.of_flat z1) (.cons (.int _ _) .nil)), ht.1, ht.2⟩
                    simp only [Instr.mapEntry, Sem.run_bind, run_underlying hu, Result.andThen_ok, hget, checkKey_run hk, findKey_run hk h2, z2]
                    rw [setObj_run ho (by simp)]; rfl
                  · cases h1
                · cases h3
            · cases h3
          · cases h3
        · cases h3
    | _ => simp at h3
  obtain ⟨v', w', r1, r2, r3, r4⟩ := main
  exact ⟨.value v', v', w', ρ, by simp [execOp, e1, r1], .inl rfl, r2, r3, r4⟩

theorem findIdx_rel : ∀ {es es' : List MapEntry}, ESR ρ es es' → ∀ {b i : Nat}, es.findIdx? (fun e => Nat.beq e.born b) = some i → es'.findIdx? (fun e => (e.born : Int) == (b : Int)) = some i
  | _, _, .nil, b, i, h => by simp at h
  | _, _, .cons (k := k) (v := v) (v' := v') (b := c) hk hv hl, b, i, h => by
    rw [List.findIdx?_cons] at h ⊢
    dsimp only at h ⊢
    have eb : ((c : Int) == (b : Int)) = Nat.beq c b := by rw [Bool.eq_iff_iff, beq_iff]; simp; omega
    rw [eb]
    cases hb : Nat.beq c b with
    | true => simpa [hb] using h
    | false =>
      simp only [hb, Bool.false_eq_true, if_false, Option.map_eq_some_iff] at h ⊢
      obtain ⟨j, h1, rfl⟩ := h
      exact ⟨j, findIdx_rel hl h1, rfl⟩

theorem entryStore_ok (t : TypeId) (m s x : Operand) (ty : TypeId) : ActsOK P N (.entryStore t m s x) ty (with3 N m s x fun m s v A => undefR (aentryStore m s v A)) := by
  intro env A v A' he ρ w act o hh e1 e2 hr
  obtain ⟨a, b, c, h1, h2, h3, h4⟩ := with3_some he
  obtain ⟨h5, rfl⟩ := undefR_some h4
  have rm := hr m (by simp [Op.operands]) _ h1
  have rs := hr s (by simp [Op.operands]) _ h2
  have rx := hr x (by simp [Op.operands]) _ h3
  have main : ∃ w', (Instr.entryStore t (act.eval m) (act.eval s) (act.eval x)).run P w = .ok () w' ∧ HR P ρ A' w' ∧ Ext A.next ρ A w ρ A' w' := by
    generalize act.eval m = m' at rm
    generalize act.eval s = s' at rs
    generalize act.eval x = x' at rx
    unfold aentryStore at h5
    split at h5
    · rename_i r bn hn
      obtain ⟨k, rfl⟩ := natOf_some hn
      rw [rs.int_inv]
      split at h5
      · rename_i es clock hma
        split at h5
        · rename_i i hi
          cases h5
          cases rm with
          | @map _ l hl =>
            obtain ⟨es', hge, ho, hes⟩ := hh.map hl hma
            have hget := getObj_run (P := P) ho (by simp)
            have hes2 : ESR ρ (AI.setAt (fun e => { e with val := c }) i es) (es'.modify i fun e => { e with val := x' }).toList := by
              rw [Array.toList_modify, modify_setAt]
              exact hes.setAt (fun _ _ _ _ hf _ => ⟨hf, rfl, rfl, rx⟩) i
            have ht := hh.turnMap hl hma (c2 := clock) hes2
            refine ⟨_, ?_, ht.1, ht.2⟩
            have hf := findIdx_rel hes hi
            have hf' : es'.findIdx? (fun e => (e.born : Int) == (bn : Int)) = some i := by
              rw [← hf]; conv => lhs; rw [show es' = es'.toList.toArray by simp, List.findIdx?_toArray]
            simp only [Instr.entryStore, Sem.run_bind, hget, Result.andThen_ok, asInt, asIntOf, Sem.run_pure, hf']
            exact setObj_run ho (by simp)
        · cases h5
      · cases h5
    · cases h5
  obtain ⟨w', r1, r2, r3⟩ := main
  exact ⟨.skip, undef, w', ρ, by simp [execOp, e1, r1], .inr ⟨rfl, rfl⟩, undef_rel ρ, r2, r3⟩

theorem run_next_none {w : World} {r m since last clock : Nat} {seen : Array Nat} {es : Array MapEntry} {ty : TypeId} (g1 : (getObj r).run P w = .ok (.mapIter (some m) since seen last) w) (g2 : (getObj m).run P w = .ok (.map es clock) w)
    (hc : (!seen.isEmpty && !es.isEmpty && es.all (fun e => decide (e.born ≥ last))) = false) (hl : es.filter (fun e => !seen.contains e.born) = #[]) :
    (Instr.next (.pointer (some ⟨r, 0, none⟩)) false ty).run P w = .ok (.tuple #[.bool false]) w := by
  simp only [Instr.next, Sem.run_bind, g1, g2, Result.andThen_ok, hc, Bool.false_eq_true, if_false, hl]
  simp [Question.forced]

theorem run_next_one {w : World} {r m since last clock : Nat} {seen : Array Nat} {es : Array MapEntry} {ty : TypeId} {e : MapEntry} (g1 : (getObj r).run P w = .ok (.mapIter (some m) since seen last) w) (g2 : (getObj m).run P w = .ok (.map es clock) w)
    (hc : (!seen.isEmpty && !es.isEmpty && es.all (fun e => decide (e.born ≥ last))) = false) (hl : es.filter (fun e => !seen.contains e.born) = #[e]) (hb : e.born < since)
    (hs : ∀ o, (setObj r o).run P w = .ok () { w with heap := w.heap.setIfInBounds r o }) :
    (Instr.next (.pointer (some ⟨r, 0, none⟩)) false ty).run P w = .ok (.tuple #[.bool true, e.key, e.val]) { w with heap := w.heap.setIfInBounds r (.mapIter (some m) since (seen.push e.born) clock) } := by
  simp only [Instr.next, Sem.run_bind, g1, g2, Result.andThen_ok, hc, Bool.false_eq_true, if_false, hl]
  have h1 : #[e].filter (fun x => decide (x.born < since)) = #[e] := by simp [hb]
  have h2 : #[e].filter (fun x => decide (x.born ≥ since)) = #[] := by simp; omega
  rw [h1, h2]
  simp [Question.forced, hs]

/-- An iterator is turned, here and there. -/
theorem HR.turnIter (hh : HR P ρ A w) {r : Nat} {l : Loc} (hl : ρ r = some l) {o o2 : AObj} {o2' : Obj} (hg : A.get r = some o) (h2 : ObjR P ρ l o2 o2') :
    HR P ρ (A.put r (some o2)) { w with heap := w.heap.setIfInBounds l.blk o2' } ∧ Ext A.next ρ A w ρ (A.put r (some o2)) { w with heap := w.heap.setIfInBounds l.blk o2' } := by
  have hlt := AHeap.lt_of_get hg
  have hb := (hh.dom _ _ hl).2
  exact hh.turn hl (o := o2) (o' := o2') (by rw [hg]; simp) ⟨rfl, AHeap.get_put_same A _ hlt, fun j hj => AHeap.get_put_ne A _ hlt (Ne.symm hj)⟩ ⟨by simp, by simp [hb], fun j hj => by simp [Array.getElem?_setIfInBounds_ne (Ne.symm hj)]⟩ ⟨rfl, rfl, rfl⟩ h2

theorem ESR.filter {es es' : List MapEntry} (h : ESR ρ es es') (f : Nat → Bool) : ESR ρ (es.filter fun e => f e.born) (es'.filter fun e => f e.born) := by
  induction h with
  | nil => exact .nil
  | @cons k v v' b l l' hk hv hl ih =>
    simp only [List.filter_cons]
    split
    · exact .cons hk hv ih
    · exact ih

theorem ESR.all {es es' : List MapEntry} (h : ESR ρ es es') (f : Nat → Bool) : es'.all (fun e => f e.born) = es.all (fun e => f e.born) := by
  induction h with
  | nil => rfl
  | cons _ _ _ ih => simp [ih]

theorem next_ok (x : Operand) (s : Bool) (ty : TypeId) : ActsOK P N (.next x s) ty (with1 N x fun v A => anext s v A) := by
  intro env A v A' he ρ w act o hh e1 e2 hr
  obtain ⟨a, h1, h2⟩ := with1_some he
  have rx := hr x (by simp [Op.operands]) _ h1
  have main : ∃ v' w', (Instr.next (act.eval x) s ty).run P w = .ok v' w' ∧ VR ρ v v' ∧ HR P ρ A' w' ∧ Ext A.next ρ A w ρ A' w' := by
    generalize act.eval x = x' at rx
    unfold anext at h2
    split at h2
    · -- a string
      rename_i b str pos hi
      obtain ⟨ad, rfl, h0, h3, rfl, hget⟩ := iterAt_some hi
      obtain ⟨l, hl, rfl⟩ := iter_rel rx h0
      obtain ⟨o', ho, hob⟩ := hh.obj _ _ _ hl hget
      cases hob with
      | siter _ _ hsh =>
        have g1 := getObj_run (P := P) ho (by simp)
        rw [hsh]
        simp only [Bool.cond_eq_ite, blt_iff] at h2
        split at h2
        · rename_i hp
          cases hd : Utf8.decode str pos with
          | mk c wd =>
            rw [hd] at h2
            cases h2
            have ht := hh.turnIter hl hget (o2 := .siter str (pos + wd)) (o2' := .stringIter str (pos + wd)) (.siter _ _ hsh)
            refine ⟨.tuple #[.bool true, goInt pos, .int .i32 c], _, ?_, .tuple (.cons (.bool _) (.cons (.int _ _) (.cons (.int _ _) .nil))), ht.1, ht.2⟩
            simp only [Instr.next, Sem.run_bind, g1, Result.andThen_ok, hp, if_true, hd]
            rw [setObj_run ho (by simp)]; rfl
        · rename_i hp
          cases h2
          exact ⟨.tuple #[.bool false], w, by simp [Instr.next, g1, hp], .tuple (.cons (.bool _) .nil), hh, .refl _ _ _ _⟩
    · -- a nil map
      rename_i b hi
      obtain ⟨ad, rfl, h0, h3, rfl, hget⟩ := iterAt_some hi
      obtain ⟨l, hl, rfl⟩ := iter_rel rx h0
      obtain ⟨o', ho, hob⟩ := hh.obj _ _ _ hl hget
      cases hob with
      | mnil hsh =>
        have g1 := getObj_run (P := P) ho (by simp)
        rw [hsh]
        cases h2
        exact ⟨.tuple #[.bool false], w, by simp [Instr.next, g1], .tuple (.cons (.bool _) .nil), hh, .refl _ _ _ _⟩
    · -- a map
      rename_i b m since seen last hi
      obtain ⟨ad, rfl, h0, h3, rfl, hget⟩ := iterAt_some hi
      obtain ⟨l, hl, rfl⟩ := iter_rel rx h0
      obtain ⟨o', ho, hob⟩ := hh.obj _ _ _ hl hget
      cases hob with
      | @miter _ _ _ _ lm hlm hsh =>
        have g1 := getObj_run (P := P) ho (by simp)
        rw [hsh]
        split at h2
        · rename_i es clock hmap
          obtain ⟨es', _, hm1, hm2⟩ := hh.map hlm hmap
          have g2 := getObj_run (P := P) hm1 (by simp)
          simp only [Bool.cond_eq_ite] at h2
          split at h2
          · cases h2
          · rename_i hns
            have hall : es'.all (fun e => decide (e.born ≥ last)) = es.all (fun e => Nat.ble last e.born) := by
              have := hm2.all (fun b => Nat.ble last b)
              rw [← this]
              rw [← Array.all_toList]
              congr 1; funext e
              rw [Bool.eq_iff_iff, ble_iff]; simp
            have hemp : es'.isEmpty = es.isEmpty := by
              have := hm2.length
              rw [Bool.eq_iff_iff, Array.isEmpty_iff_size_eq_zero, List.isEmpty_iff_length_eq_zero]
              simp at this; omega
            have hseen : seen.toArray.isEmpty = seen.isEmpty := by cases seen <;> rfl
            have hcond : (!seen.toArray.isEmpty && !es'.isEmpty && es'.all (fun e => decide (e.born ≥ last))) = false := by
              rw [hall, hemp, hseen]; simpa using hns
            have hleft : ESR ρ (es.filter fun e => !seen.contains e.born) (es'.filter fun e => !seen.toArray.contains e.born).toList := by
              have := hm2.filter (fun b => !seen.contains b)
              simpa using this
            obtain ⟨left', hl'⟩ : ∃ left', left' = es'.filter fun e => !seen.toArray.contains e.born := ⟨_, rfl⟩
            rw [← hl'] at hleft
            split at h2
            · rename_i hnil
              rw [hnil] at hleft
              cases h2
              have e0 : left' = #[] := by
                have := hleft.length; simp at this; exact this
              refine ⟨.tuple #[.bool false], w, ?_, .tuple (.cons (.bool _) .nil), hh, .refl _ _ _ _⟩
              exact run_next_none g1 g2 hcond (by rw [← hl', e0])
            · rename_i e hone
              rw [hone] at hleft
              simp only [blt_iff] at h2
              split at h2
              · rename_i hlt
                cases h2
                obtain ⟨e', e0, f1, f2, f3⟩ : ∃ e', left' = #[e'] ∧ flat e.key = true ∧ (e'.key = e.key ∧ e'.born = e.born) ∧ VR ρ e.val e'.val := by
                  have hlen := hleft.length
                  obtain ⟨x, p1, p2, p3, p4, p5⟩ := hleft.get (i := 0) (e := e) rfl
                  refine ⟨x, ?_, p2, ⟨p3, p4⟩, p5⟩
                  apply Array.ext'
                  cases hx : left'.toList with
                  | nil => rw [hx] at p1; cases p1
                  | cons y l =>
                    rw [hx] at p1 hlen
                    simp at p1 hlen
                    rw [p1, hlen]
                have ht := hh.turnIter hl hget (o2 := .miter m since (seen ++ [e.born]) clock) (o2' := .mapIter (some lm.blk) since (seen.toArray.push e'.born) clock) (by
                  have : seen.toArray.push e'.born = (seen ++ [e.born]).toArray := by rw [f2.2]; simp
                  rw [this]; exact .miter hlm hsh)
                refine ⟨.tuple #[.bool true, e'.key, e'.val], _, run_next_one g1 g2 hcond (by rw [← hl', e0]) (by rw [f2.2]; exact hlt) (fun o => setObj_run ho (by simp)), .tuple (.cons (.bool _) (.cons (by rw [f2.1]; exact .of_flat f1) (.cons f3 .nil))), ht.1, ht.2⟩
              · cases h2
            · cases h2
        · cases h2
    · cases h2
  obtain ⟨v', w', r1, r2, r3, r4⟩ := main
  exact ⟨.value v', v', w', ρ, by simp [execOp, e1, e2, r1], .inl rfl, r2, r3, r4⟩

end
end Go.AI

/- What each operation does, part nine: append, copy, clear; ranging over a map. -/
namespace Go.AI

section
variable {P : Program} {N : Nat} {ρ : Emb} {A : AHeap} {w : World}

theorem HR.congr (h : HR P ρ A w) {w' : World} (e : w'.heap = w.heap) : HR P ρ A w' :=
  ⟨fun i l hi => by rw [e]; exact h.dom i l hi, h.inj, fun i l o hi ho => by rw [e]; exact h.obj i l o hi ho, h.top⟩

theorem Ext.congr {n : Nat} {ρ ρ' : Emb} {A A' : AHeap} {w w' w₂ : World} (h : Ext n ρ A w ρ' A' w') (e : w₂.heap = w'.heap) (h1 : w₂.os = w'.os) (h2 : w₂.output = w'.output) (h3 : w₂.tape = w'.tape) : Ext n ρ A w ρ' A' w₂ :=
  ⟨h.sub, h.old, h.next, by rw [e]; exact h.size, by rw [e]; exact h.kept, h.own, h1.trans h.os, h2.trans h.out, h3.trans h.tape⟩

/-- A new block, here and there, over a world that is drawn from. -/
theorem HR.laid (h : HR P ρ A w) {A' : AHeap} {ob : AObj} {v v' : Value} {W : World} (hp : A.push ob = some (A.next, A')) (hl : LaidR P ρ A.next ob v w v' W) :
    ∃ ρ', VR ρ' v v' ∧ HR P ρ' A' W ∧ Ext A.next ρ A w ρ' A' W := by
  obtain ⟨o', cap, esz, e, e1, e2, e3, hr⟩ := hl
  have hnone : ρ A.next = none := by
    cases hx : ρ A.next with
    | none => rfl
    | some l => have := (h.dom _ _ hx).1; omega
  obtain ⟨r1, r2⟩ := hr (ρ.with A.next ⟨w.heap.size, 0, cap, esz⟩) (Emb.with_le hnone) (by simp)
  have hb : ObjR P ρ ⟨w.heap.size, 0, cap, esz⟩ ob o' ∨ True := .inr trivial
  -- the block's own reading may name itself: it is born with its place known
  have g := Grow.push h.top hp
  have hpe := AHeap.push_eq hp
  refine ⟨ρ.with A.next ⟨w.heap.size, 0, cap, esz⟩, r1, ?_, ?_⟩
  · refine ⟨?_, ?_, ?_, ?_⟩
    · intro j k ej
      by_cases hj : j = A.next
      · subst hj; simp at ej; subst ej; exact ⟨by omega, by rw [e]; simp⟩
      · rw [Emb.with_ne hj] at ej; exact ⟨by have := (h.dom j k ej).1; omega, by rw [e]; have := (h.dom j k ej).2; simp; omega⟩
    · intro a b la lb ea eb ha hb e
      by_cases h1 : a = A.next
      · by_cases h2 : b = A.next
        · omega
        · rw [Emb.with_ne h2] at eb; subst h1; simp at ea; subst ea; have := (h.dom b lb eb).2; simp only at e; omega
      · by_cases h2 : b = A.next
        · rw [Emb.with_ne h1] at ea; subst h2; simp at eb; subst eb; have := (h.dom a la ea).2; simp only at e; omega
        · rw [Emb.with_ne h1] at ea; rw [Emb.with_ne h2] at eb
          exact h.inj a b la lb ea eb (by rwa [hpe.2.2.2.2 a h1] at ha) (by rwa [hpe.2.2.2.2 b h2] at hb) e
    · intro j k oj ej hj
      by_cases h1 : j = A.next
      · subst h1; simp at ej; subst ej; rw [hpe.2.2.2.1] at hj; cases hj
        exact ⟨o', by rw [e]; simp, r2⟩
      · rw [Emb.with_ne h1] at ej
        rw [hpe.2.2.2.2 j h1] at hj
        obtain ⟨x, hx, hr⟩ := h.obj j k oj ej hj
        exact ⟨x, by rw [e, Array.getElem?_push, if_neg (Nat.ne_of_lt (h.dom j k ej).2)]; exact hx, hr.mono (Emb.with_le hnone)⟩
    · exact g.top
  · refine ⟨Emb.with_le hnone, ?_, g.next, by rw [e]; simp, ?_, ?_, e1, e2, e3⟩
    · intro j hj ej; rw [Emb.with_ne (by omega)]; exact ej
    · intro b hb _; rw [e, Array.getElem?_push, if_neg (Nat.ne_of_lt hb)]
    · rintro b hb ⟨j, k, ej, hj, hbk⟩
      by_cases h1 : j = A.next
      · subst h1; simp at ej; subst ej; simp only at hbk; omega
      · rw [Emb.with_ne h1] at ej; exact ⟨j, k, ej, by rwa [hpe.2.2.2.2 j h1] at hj, hbk⟩

theorem LaysOK.acts {op : Op} {ty : TypeId} {f : Env → AHeap → AR} (h : LaysOK P N op ty f) : ActsOK P N op ty f := by
  intro env A v A' he ρ w act o hh e1 e2 hr
  obtain ⟨ob, hp, hr2⟩ := h env A v A' he
  obtain ⟨v', W, r1, r2⟩ := hr2 ρ w act o e1 e2 hr
  obtain ⟨ρ', q1, q2, q3⟩ := hh.laid hp r2
  exact ⟨.value v', v', W, ρ', r1, .inl rfl, q1, q2, q3⟩

theorem ReadsOK.acts {op : Op} {ty : TypeId} {f : Env → AHeap → AR} (h : ReadsOK P N op ty f) : ActsOK P N op ty f := by
  intro env A v A' he ρ w act o hh e1 e2 hr
  obtain ⟨rfl, hr2⟩ := h env A v A' he
  obtain ⟨v', r1, r2⟩ := hr2 ρ w act o hh e1 e2 hr
  exact ⟨.value v', v', w, ρ, r1, .inl rfl, r2, hh, .refl _ _ _ _⟩

theorem rangeMap_ok (t k e : TypeId) (x : Operand) (hu : P.underlying t = some (.map k e)) (ty : TypeId) : ActsOK P N (.range t x) ty (with1 N x arangeMap) := by
  intro env A v A' he ρ w act o hh e1 e2 hr
  obtain ⟨a, h1, h2⟩ := with1_some he
  have rx := hr x (by simp [Op.operands]) _ h1
  unfold arangeMap at h2
  split at h2
  · obtain ⟨hp, rfl⟩ := anew_some h2
    generalize hx : act.eval x = x' at rx
    cases rx
    obtain ⟨ρ', q1, q2, q3⟩ := hh.laid (v := ptr A.next) (v' := .pointer (some ⟨w.heap.size, 0, none⟩)) (W := w.alloc (.mapIter none 0 #[] 0)) hp
      ⟨_, 0, 0, rfl, rfl, rfl, rfl, fun _ _ hn => ⟨ptr_rel hn rfl, .mnil rfl⟩⟩
    exact ⟨_, _, _, ρ', by simp [execOp, e1, hx, Instr.range, run_underlying hu], .inl rfl, q1, q2, q3⟩
  · rename_i m
    split at h2
    · rename_i es clock hma
      obtain ⟨hp, rfl⟩ := anew_some h2
      generalize hx : act.eval x = x' at rx
      cases rx with
      | @map _ l hl =>
        obtain ⟨es', _, ho, _⟩ := hh.map hl hma
        have hget := getObj_run (P := P) ho (by simp)
        obtain ⟨ρ', q1, q2, q3⟩ := hh.laid (v := ptr A.next) (v' := .pointer (some ⟨w.heap.size, 0, none⟩)) (W := w.alloc (.mapIter (some l.blk) clock #[] clock)) hp
          ⟨_, 0, 0, rfl, rfl, rfl, rfl, fun _ hle hn => ⟨ptr_rel hn rfl, .miter (seen := []) (hle _ _ hl) rfl⟩⟩
        exact ⟨_, _, _, ρ', by simp [execOp, e1, hx, Instr.range, run_underlying hu, hget], .inl rfl, q1, q2, q3⟩
    · cases h2
  · cases h2

/-- What is appended or copied. -/
theorem srcCells_run (hh : HR P ρ A w) {size n : Nat} {x x' : Value} (hr : VR ρ x x') {cs : List Value} (h : srcCells size n x A = some cs) :
    ∃ cs', (Builtin.firstCells size n x').run P w = .ok ⟨cs'⟩ w ∧ VRs ρ cs cs' ∧ cs.length = n * size := by
  unfold srcCells at h
  split at h
  · rename_i a len cap
    simp only [Bool.cond_eq_ite, ble_iff] at h
    split at h
    · rename_i hb
      split at h
      · rename_i vs hc
        cases hr with
        | @slice _ a' l _ _ k' hs hl hn hk ha =>
          have hlen := span_len h
          by_cases h0 : 0 < k'
          · rw [ha h0]
            obtain ⟨s', r1, r2⟩ := hh.loadCells (P := P) hl hc h
            exact ⟨s', by simpa [Builtin.firstCells] using r1, r2, hlen⟩
          · have n0 : n = 0 := by omega
            subst n0
            have : cs = [] := List.length_eq_zero_iff.1 (by simpa using hlen)
            subst this
            exact ⟨[], by simp [Builtin.firstCells, Go.loadCells, loadCellsFrom], .nil, by simp⟩
      · cases h
    · cases h
  · simp only [Bool.cond_eq_ite, beq_iff] at h
    split at h
    · rename_i hb
      cases h; cases hr; subst hb
      exact ⟨[], by simp [Builtin.firstCells], .nil, by simp⟩
    · cases h
  · rename_i s
    simp only [Bool.cond_eq_ite, Bool.and_eq_true, beq_iff, ble_iff] at h
    split at h
    · rename_i hb
      cases h; cases hr
      obtain ⟨rfl, hb2⟩ := hb
      refine ⟨(s.data.toList.take n).map fun b => .int .u8 b.toNat, ?_, VRs.of_flat ?_, ?_⟩
      · simp only [Builtin.firstCells, Sem.run_pure]
        congr 1
        apply Array.ext'
        simp [ByteArray.data_extract, List.extract_eq_take_drop]
      · generalize s.data.toList.take n = l
        induction l with
        | nil => rfl
        | cons b l ih => simp [flats, flat, ih]
      · simp; omega
    · cases h
  · cases h

theorem lenAt_run {x x' : Value} (hr : VR ρ x x') {n : Nat} (h : lenAt x = some n) (w : World) : (Builtin.lenOf x').run P w = .ok n w := by
  unfold lenAt at h
  split at h
  · cases h; cases hr <;> rfl
  · cases h; cases hr; rfl
  · cases h

theorem copy_ok (t : TypeId) (d x : Operand) (ats : List TypeId) (ty : TypeId) : ActsOK P N (.call { callee := .builtin .copy, args := ⟨[d, x]⟩, argTypes := ⟨t :: ats⟩ }) ty (with2 N d x (acopy P t)) := by
  intro env A v A' he ρ w act o hh e1 e2 hr
  obtain ⟨a, b, h1, h2, h3⟩ := with2_some he
  have rd := hr d (by simp [Op.operands, Call.operands]) _ h1
  have rx := hr x (by simp [Op.operands, Call.operands]) _ h2
  have main : ∃ v' w', (Builtin.copy_ ⟨t :: ats⟩ ty #[act.eval d, act.eval x]).run P w = .ok v' w' ∧ VR ρ v v' ∧ HR P ρ A' w' ∧ Ext A.next ρ A w ρ A' w' := by
    generalize act.eval d = d' at rd
    generalize act.eval x = x' at rx
    unfold acopy at h3
    cases hu : P.underlying t with
    | none => simp [hu] at h3
    | some dd =>
    rw [hu] at h3
    cases dd with
    | slice e =>
      dsimp only at h3
      cases hs : sizeAt P e with
      | none => simp [hs] at h3
      | some size =>
        simp only [hs] at h3
        split at h3
        · rename_i base dLen dCap m hm
          split at h3
          · rename_i cs hcs
            obtain ⟨cs', r1, r2, r3⟩ := srcCells_run (P := P) hh rx hcs
            have hl := lenAt_run (P := P) rx hm w
            have hlen := r2.length
            split at h3
            · cases rd
              simp only [Bool.cond_eq_ite, List.isEmpty_iff] at h3
              split at h3
              · cases h3
                exact ⟨goInt (Nat.min m dLen), w, by simp [Builtin.copy_, run_underlying hu, hl, run_sizeOf hs, r1], .int _ _, hh, .refl _ _ _ _⟩
              · cases h3
            · rename_i ad
              simp only [Bool.cond_eq_ite, List.isEmpty_iff] at h3
              cases rd with
              | @slice _ a' l _ _ k' hs0 hlo hn hk ha =>
              split at h3
              · rename_i hnil
                cases h3
                have : cs' = [] := List.length_eq_zero_iff.1 (by rw [hlen, hnil]; rfl)
                subst this
                exact ⟨goInt (Nat.min m dLen), w, by simp [Builtin.copy_, run_underlying hu, hl, run_sizeOf hs, r1, storeCells], .int _ _, hh, .refl _ _ _ _⟩
              · rename_i hnil
                split at h3
                · rename_i B hw
                  cases h3
                  have h0 : 0 < k' := by
                    rcases Nat.eq_zero_or_pos k' with h | h
                    · exfalso; apply hnil
                      have d0 : dLen = 0 := by omega
                      apply List.length_eq_zero_iff.1
                      rw [r3, d0]; simp
                    · exact h
                  rw [ha h0]
                  obtain ⟨w', q1, q2, q3⟩ := hh.write (P := P) hlo r2 hw
                  exact ⟨goInt (Nat.min m dLen), w', by simp [Builtin.copy_, run_underlying hu, hl, run_sizeOf hs, r1, q1], .int _ _, q2, q3⟩
                · cases h3
          · cases h3
        · cases h3
    | _ => simp at h3
  obtain ⟨v', w', r1, r2, r3, r4⟩ := main
  exact ⟨.value v', v', w', ρ, by simp [execOp, e1, e2, resolve, invoke, builtin, r1], .inl rfl, r2, r3, r4⟩

theorem clear_ok (t : TypeId) (x : Operand) (ats : List TypeId) (ty : TypeId) : ActsOK P N (.call { callee := .builtin .clear, args := ⟨[x]⟩, argTypes := ⟨t :: ats⟩ }) ty (with1 N x fun v A => undefR (aclear P t v A)) := by
  intro env A v A' he ρ w act o hh e1 e2 hr
  obtain ⟨a, h1, h2⟩ := with1_some he
  obtain ⟨h3, rfl⟩ := undefR_some h2
  have rx := hr x (by simp [Op.operands, Call.operands]) _ h1
  have main : ∃ w', (Builtin.clear_ ⟨t :: ats⟩ ty #[act.eval x]).run P w = .ok (.tuple #[]) w' ∧ HR P ρ A' w' ∧ Ext A.next ρ A w ρ A' w' := by
    generalize act.eval x = x' at rx
    unfold aclear at h3
    cases hu : P.underlying t with
    | none => simp [hu] at h3
    | some dd =>
    rw [hu] at h3
    cases dd with
    | slice e =>
      dsimp only at h3
      cases hz : zeroOf P e with
      | none => simp [hz] at h3
      | some z =>
        obtain ⟨z1, z2⟩ := zeroOf_eq hz
        simp only [hz] at h3
        split at h3
        · cases h3
          cases rx
          · exact ⟨w, by simp [Builtin.clear_, run_underlying hu], hh, .refl _ _ _ _⟩
          · exact ⟨w, by simp [Builtin.clear_, run_underlying hu], hh, .refl _ _ _ _⟩
        · rename_i ad n cap hn0
          cases rx with
          | @slice _ a' l _ _ k' hs0 hlo hn hk ha =>
            have hne : n ≠ 0 := fun h => hn0 h
            rw [ha (by omega)]
            obtain ⟨w', q1, q2, q3⟩ := hh.write (P := P) hlo (((VR.of_flat (ρ := ρ) z1).cells).repl n) h3
            refine ⟨w', ?_, q2, q3⟩
            have hzc : (Builtin.zeroCells z.cells n).toList = repl (cellsOf z) n := by
              unfold Builtin.zeroCells
              rw [range_repl z.cells n _ rfl]; rfl
            obtain ⟨n', rfl⟩ : ∃ n', n = n' + 1 := ⟨n - 1, by omega⟩
            simp [Builtin.clear_, run_underlying hu, z2, hzc, q1]
        · cases h3
    | _ => simp at h3
  obtain ⟨w', r1, r2, r3⟩ := main
  exact ⟨.value (.tuple #[]), .tuple #[], w', ρ, by simp [execOp, e1, e2, resolve, invoke, builtin, r1], .inl rfl, .tuple .nil, r2, r3⟩

end
end Go.AI

/- What each operation does, part ten: append. -/
namespace Go.AI

section
variable {P : Program} {N : Nat} {ρ : Emb} {A : AHeap} {w : World}

theorem growBy_le (newLen : Nat) : ∀ (r c : Nat), c < newLen → Builtin.growBy newLen r c ≤ newLen + (newLen + 768) / 4
  | 0, c, h => by simp [Builtin.growBy]; omega
  | r + 1, c, h => by
    unfold Builtin.growBy
    rw [if_neg (by omega)]
    by_cases h2 : c + (c + 768) / 4 < newLen
    · exact growBy_le newLen r _ h2
    · cases r with
      | zero => simp [Builtin.growBy]; omega
      | succ r => unfold Builtin.growBy; rw [if_pos (by omega)]; omega

theorem nextslicecap_le {need old : Nat} (h : old < need) : Builtin.nextslicecap need old ≤ 2 * need + 192 := by
  unfold Builtin.nextslicecap
  split
  · omega
  · split
    · omega
    · have := growBy_le need 4 old h; omega

theorem wrap_small {n : Nat} (h : n ≤ 2 ^ 40) : IntKind.i64.wrap (n : Int) = n := by
  have := IntKind.wrap_i64 (n : Int)
  rw [this]; omega

/-- What is appended: a row, a string; or so many zeros. -/
inductive AppR (P : Program) (rest : List TypeId) (e : TypeId) (size bytes : Nat) (w : World) : Value → Nat → List Value → Prop
  | row {x : Value} {n : Nat} {new : List Value} (hz : zerosOf P rest = some false) (hn : (Builtin.lenOf x).run P w = .ok n w) (hf : (Builtin.firstCells size n x).run P w = .ok ⟨new⟩ w)
      (hn' : (Builtin.lenOf x).run P w.drew = .ok n w.drew) (hf' : (Builtin.firstCells size n x).run P w.drew = .ok ⟨new⟩ w.drew) : AppR P rest e size bytes w x n new
  | zeros {k : IntKind} {n : Nat} {z : Value} (hz : zerosOf P rest = some true) (hs : n ≤ 2 ^ 40) (hb : n * bytes ≤ 2 ^ 40) (hzv : ∀ w, (zeroValue e).run P w = .ok z w) (hzs : z.cells.size = size) : AppR P rest e size bytes w (.int k n) n (repl z.cells.toList n)

theorem zeroCells_eq (z : Array Value) (n : Nat) : Builtin.zeroCells z n = ⟨repl z.toList n⟩ := by
  unfold Builtin.zeroCells; exact range_repl z n _ rfl

set_option maxHeartbeats 1000000 in
theorem append_fits {t e ty : TypeId} {rest : List TypeId} {i : TypeInfo} (hu : P.underlying t = some (.slice e)) (hi : P.info? e = some i) {base : Option Addr} {sLen sCap n : Nat} {x : Value} {new : List Value} {w' : World}
    (hx : AppR P rest e i.size i.bytes w x n new) (hfit : sLen + n ≤ sCap)
    (hst : match base with | none => w' = w | some a => (storeCells (a.add (sLen * i.size)) new).run P w = .ok () w') :
    (Builtin.append_ ⟨t :: rest⟩ ty #[.slice base sLen sCap, x]).run P w = .ok (.slice base (sLen + n) sCap) w' := by
  have hs : sizeAt P e = some i.size := by simp [sizeAt, hi]
  cases hx with
  | row hz hn hf _ _ =>
    unfold zerosOf at hz
    cases rest with
    | nil =>
      cases base with
      | none => subst hst; simp [Builtin.append_, run_underlying hu, run_sizeOf hs, hn, hfit, hf]
      | some a => simp [Builtin.append_, run_underlying hu, run_sizeOf hs, hn, hfit, hf, hst]
    | cons xt rest =>
      dsimp only at hz
      split at hz
      · cases hz
      · rename_i hx
        cases base with
        | none => subst hst; simp [Builtin.append_, run_underlying hu, run_sizeOf hs, run_underlying hx, hn, hfit, hf]
        | some a => simp [Builtin.append_, run_underlying hu, run_sizeOf hs, run_underlying hx, hn, hfit, hf, hst]
      · rename_i hx
        cases base with
        | none => subst hst; simp [Builtin.append_, run_underlying hu, run_sizeOf hs, run_underlying hx, hn, hfit, hf]
        | some a => simp [Builtin.append_, run_underlying hu, run_sizeOf hs, run_underlying hx, hn, hfit, hf, hst]
      · cases hz
  | @zeros k _ z hz h40 hb hzv hzs =>
    unfold zerosOf at hz
    cases rest with
    | nil => cases hz
    | cons xt rest =>
      dsimp only at hz
      split at hz
      · rename_i kx hx
        have hw := wrap_small h40
        have h0 : ¬ ((n : Int) < 0) := by omega
        have hby : ¬ (281474976710656 < (n : Int) * (i.bytes : Int)) := by
          have : (n : Int) * (i.bytes : Int) = ((n * i.bytes : Nat) : Int) := by simp
          omega
        have hnil : n * i.size = 0 → repl z.cells.toList n = [] := fun h => List.length_eq_zero_iff.1 (by rw [repl_length]; simpa [hzs] using h)
        by_cases h00 : n * i.size = 0
        · rw [hnil h00] at hst
          cases base with
          | none => subst hst; simp [Builtin.append_, run_underlying hu, run_sizeOf hs, run_underlying hx, asInt, asIntOf, hw, h0, run_typeInfo hi, hby, hfit, h00]
          | some a => simp [Builtin.append_, run_underlying hu, run_sizeOf hs, run_underlying hx, asInt, asIntOf, hw, h0, run_typeInfo hi, hby, hfit, h00, hst]
        · cases base with
          | none => subst hst; simp [Builtin.append_, run_underlying hu, run_sizeOf hs, run_underlying hx, asInt, asIntOf, hw, h0, run_typeInfo hi, hby, hfit, h00, hzv]
          | some a => simp [Builtin.append_, run_underlying hu, run_sizeOf hs, run_underlying hx, asInt, asIntOf, hw, h0, run_typeInfo hi, hby, hfit, h00, hzv, zeroCells_eq, hst]
      · cases hz
      · cases hz
      · cases hz

set_option maxHeartbeats 1000000 in
theorem append_grows {t e ty : TypeId} {rest : List TypeId} {i : TypeInfo} {zz : Value} (hu : P.underlying t = some (.slice e)) (hi : P.info? e = some i) (hzz : ∀ w, (zeroValue e).run P w = .ok zz w) {base : Option Addr} {sLen sCap n : Nat} {x : Value} {new old : List Value}
    (hx : AppR P rest e i.size i.bytes w x n new) (hfit : ¬ sLen + n ≤ sCap) (h40 : (sLen + n) * i.bytes ≤ 2 ^ 40) (h41 : sLen + n ≤ 2 ^ 40) (hb0 : 0 < i.bytes)
    (hold : (Builtin.firstCells i.size sLen (.slice base sLen sCap)).run P w.drew = .ok ⟨old⟩ w.drew) :
    (Builtin.append_ ⟨t :: rest⟩ ty #[.slice base sLen sCap, x]).run P w = .ok (.slice (some ⟨w.heap.size, 0, none⟩) (sLen + n) (grownCap w (sLen + n) sCap e))
      (w.drew.alloc (.cells (old.toArray ++ (new.toArray ++ Builtin.zeroCells zz.cells (grownCap w (sLen + n) sCap e - (sLen + n)))) e)) := by
  have hs : sizeAt P e = some i.size := by simp [sizeAt, hi]
  have h63 : ¬ (9223372036854775807 < ((sLen : Int) + (n : Int))) := by omega
  have h48 : ¬ (281474976710656 < Builtin.nextslicecap (sLen + n) sCap * i.bytes) := by
    have h1 := nextslicecap_le (need := sLen + n) (old := sCap) (by omega)
    have h2 : Builtin.nextslicecap (sLen + n) sCap * i.bytes ≤ (2 * (sLen + n) + 192) * i.bytes := Nat.mul_le_mul_right _ h1
    have h3 : (2 * (sLen + n) + 192) * i.bytes = 2 * ((sLen + n) * i.bytes) + 192 * i.bytes := by rw [Nat.add_mul, Nat.mul_assoc]
    have h4 : i.bytes ≤ (sLen + n) * i.bytes := Nat.le_mul_of_pos_left _ (by omega)
    omega
  cases hx with
  | row hz hn hf _ hf' =>
    unfold zerosOf at hz
    cases rest with
    | nil =>
      simp [Builtin.append_, run_underlying hu, run_sizeOf hs, hn, hfit, h63, run_typeInfo hi, h48, Question.forced, hold, hf', hzz, newRow, grownCap]
    | cons xt rest =>
      dsimp only at hz
      split at hz
      · cases hz
      · rename_i hx
        simp [Builtin.append_, run_underlying hu, run_sizeOf hs, run_underlying hx, hn, hfit, h63, run_typeInfo hi, h48, Question.forced, hold, hf', hzz, newRow, grownCap]
      · rename_i hx
        simp [Builtin.append_, run_underlying hu, run_sizeOf hs, run_underlying hx, hn, hfit, h63, run_typeInfo hi, h48, Question.forced, hold, hf', hzz, newRow, grownCap]
      · cases hz
  | @zeros k _ z hz hn40 hb hzv hzs =>
    unfold zerosOf at hz
    cases rest with
    | nil => cases hz
    | cons xt rest =>
      dsimp only at hz
      split at hz
      · rename_i kx hx
        have hw := wrap_small hn40
        have h0 : ¬ ((n : Int) < 0) := by omega
        have hby : ¬ (281474976710656 < (n : Int) * (i.bytes : Int)) := by
          have : (n : Int) * (i.bytes : Int) = ((n * i.bytes : Nat) : Int) := by simp
          omega
        have hnil : n * i.size = 0 → repl z.cells.toList n = [] := fun h => List.length_eq_zero_iff.1 (by rw [repl_length]; simpa [hzs] using h)
        by_cases h00 : n * i.size = 0
        · rw [hnil h00]
          simp [Builtin.append_, run_underlying hu, run_sizeOf hs, run_underlying hx, asInt, asIntOf, hw, h0, run_typeInfo hi, hby, hfit, h63, h48, Question.forced, hold, h00, hzz, newRow, grownCap]
        · have hzeq : zz = z := by have h1 := hzz w; rw [hzv w] at h1; cases h1; rfl
          subst hzeq
          simp [Builtin.append_, run_underlying hu, run_sizeOf hs, run_underlying hx, asInt, asIntOf, hw, h0, run_typeInfo hi, hby, hfit, h63, h48, Question.forced, hold, h00, hzz, zeroCells_eq, newRow, grownCap]
      · cases hz
      · cases hz
      · cases hz

end
end Go.AI

/- What each operation does, part eleven: append, told of abstract rows. -/
namespace Go.AI

section
variable {P : Program} {N : Nat} {ρ : Emb} {A : AHeap} {w : World}

/-- The row that comes of an append that needs more room. -/
theorem grown_laid (hh : HR P ρ A w) {e : TypeId} {size need : Nat} (hs : sizeAt P e = some size) {vs vs' : List Value} (hv : VRs ρ vs vs') (hlen : vs.length = need * size) (h0 : 0 < need) (hneed : need ≤ 2 ^ 40) (sCap : Nat) {z : Array Value} (hz : z.size = size) :
    LaidR P ρ A.next (.cells vs e) (.slice (some ⟨A.next, 0, none⟩) need (2 * big)) w (.slice (some ⟨w.heap.size, 0, none⟩) need (grownCap w need sCap e))
      (w.drew.alloc (.cells (vs'.toArray ++ Builtin.zeroCells z (grownCap w need sCap e - need)) e (0, 0))) := by
  obtain ⟨cap, hcap⟩ : ∃ cap, cap = grownCap w need sCap e := ⟨_, rfl⟩
  have hc1 : need ≤ cap := by rw [hcap]; unfold grownCap Question.cut; dsimp only; omega
  have hc2 : cap < big := by
    rw [hcap]; unfold grownCap Question.cut big; dsimp only
    have := Nat.mod_lt (w.tape w.drawn (.appendCap need sCap e)) (show 0 < 2 ^ 63 - need by omega)
    omega
  rw [← hcap]
  have hlen' := hv.length
  have hz1 : P.cellsOf e = size := cellsOf_size hs
  have hsize : (vs'.toArray ++ Builtin.zeroCells z (cap - need)).size = cap * size := by
    rw [zeroCells_eq]
    simp only [Array.size_append, List.size_toArray, repl_length, Array.length_toList, hz]
    rw [hlen', hlen, ← Nat.add_mul]; congr 1; omega
  refine ⟨_, cap, size, rfl, rfl, rfl, rfl, fun ρ' hle hn => ⟨.slice rfl hn hc1 ?_ (fun _ => rfl), ?_⟩⟩
  · unfold CapR
    rw [if_neg (by omega)]
    exact ⟨by show 0 < cap; omega, hc2, by show _ ≤ 2 * big + cap; omega, Nat.le_refl _, by show cap = 2 * big + cap - 2 * big; omega, by simp⟩
  · refine .cells (fun i v hi => ?_) (fun i hi => ?_) (fun _ => ⟨hz1.symm, ?_⟩)
    · obtain ⟨v', q1, q2⟩ := hv.get i hi
      refine ⟨v', ?_, q2.mono hle⟩
      have hlt := (List.getElem?_eq_some_iff.1 q1).1
      simp only [Nat.zero_add]
      rw [Array.getElem?_append_left (by simpa using hlt)]
      simpa using q1
    · have : i < cap * size := by
        rcases hi with hi | hi
        · rw [hlen] at hi; exact Nat.lt_of_lt_of_le hi (Nat.mul_le_mul_right _ hc1)
        · rw [hz1] at hi; exact hi
      exact ⟨by rw [hsize]; show 0 + i < _; omega, by show ¬ (0 ≤ 0 + i ∧ 0 + i < 0); omega⟩
    · show vs.length ≤ cap * size
      rw [hlen]; exact Nat.mul_le_mul_right _ hc1

/-- append in place, into an abstract row that goes on under a new name. -/
theorem HR.rename (hh : HR P ρ A w) {size : Nat} {a : Addr} {vs : List Value} (hrow : rowOf P size A a = some vs) {l : Loc} (hl : ρ a.block = some l) {k k' : Nat} (hk : CapR l a.off k k') (hb : ¬ k < big)
    {sLen n : Nat} {old new new' : List Value} (hold : span a.off (sLen * size) vs = some old) (hnew : VRs ρ new new') (hlen : new.length = n * size) (h1 : new.all oneCell = true) (h0 : 0 < sLen + n) (hfit : sLen + n ≤ k')
    {e : TypeId} (hs : sizeAt P e = some size) (he : elemIs A a e = true) {B : AHeap} {i : Nat} (hp : (A.put a.block none).push (.cells (old ++ new) e) = some (i, B)) :
    ∃ w' ρ', (storeCells ((l.at a).add (sLen * size)) new').run P w = .ok () w' ∧ VR ρ' (.slice (some ⟨i, 0, none⟩) (sLen + n) (2 * big)) (.slice (some (l.at a)) (sLen + n) k') ∧ HR P ρ' B w' ∧ Ext A.next ρ A w ρ' B w' := by
  obtain ⟨z0, z1, z2⟩ := hh.room hrow hl hk hb
  obtain ⟨e0, hsp, hg, hn0, _⟩ := rowOf_some hrow
  have hee : e0 = e := by unfold elemIs at he; rw [hg] at he; exact Nat.eq_of_beq_eq_true he
  subst hee
  obtain ⟨e', c, lo, hi, _, hg', hm, hr, hb2, hz⟩ := hh.row hl (vs := vs) (by simp [cellsAt, hsp, hg])
  rw [hg] at hg'; cases hg'
  unfold CapR at hk
  rw [if_neg hb] at hk
  obtain ⟨k1, k2, k3, k4, k5, k6⟩ := hk
  obtain ⟨y1, y2⟩ := hz k1
  have hlen' := hnew.length
  have hce : P.cellsOf e0 = size := cellsOf_size hn0
  -- every cell up to the capacity is there
  have hroom : ∀ j, j < k' * size → l.sh + (a.off + j) < c.size ∧ ¬ (lo ≤ l.sh + (a.off + j) ∧ l.sh + (a.off + j) < hi) := by
    intro j hj
    refine hb2 (a.off + j) (.inr ?_)
    rw [hce, k6, z1]
    have : (2 * big - k) * size + k' * size = l.cap * size := by rw [← Nat.add_mul]; congr 1; omega
    omega
  have hmul : sLen * size + n * size ≤ k' * size := by rw [← Nat.add_mul]; exact Nat.mul_le_mul_right _ hfit
  obtain ⟨w', c', r1, r2, r3, r4, r5, r6, r7⟩ := run_storeCells' (P := P) l.blk (l.sh + (a.off + sLen * size)) new' 0 w c e0 lo hi hm
    (fun j hj => by have := hroom (sLen * size + j) (by omega); rwa [show l.sh + (a.off + sLen * size) + 0 + j = l.sh + (a.off + (sLen * size + j)) by omega]) (by rw [hnew.oneCells]; exact h1)
  have hadd := add_at l a (sLen * size)
  have hlt := AHeap.lt_of_get hg
  have hia := (hh.dom _ _ hl).1
  obtain ⟨hi0, hlt2, hBn, hBi, hBj⟩ := AHeap.push_eq hp
  have hnext : (A.put a.block none).next = A.next := rfl
  rw [hnext] at hi0 hBn
  have hnone : ρ i = none := by
    cases hx : ρ i with
    | none => rfl
    | some l => have := (hh.dom _ _ hx).1; omega
  obtain ⟨nl, hnl⟩ : ∃ nl : Loc, nl = ⟨l.blk, l.sh + a.off, k', size⟩ := ⟨_, rfl⟩
  have hle := Emb.with_le (l := nl) hnone
  have hne : i ≠ a.block := by omega
  have hBget : ∀ j, j ≠ i → j ≠ a.block → B.get j = A.get j := fun j h1 h2 => by rw [hBj j h1, AHeap.get_put_ne A none hlt (Ne.symm h2)]
  have hBa : B.get a.block = none := by rw [hBj _ (Ne.symm hne), AHeap.get_put_same A none hlt]
  have hobj : ObjR P (ρ.with i nl) nl (.cells (old ++ new) e0) (.cells c' e0 (lo, hi)) := by
    have holen := span_len hold
    have hnl1 : nl.sh = l.sh + a.off := by rw [hnl]
    have hnl2 : nl.cap = k' := by rw [hnl]
    have hnl3 : nl.esz = size := by rw [hnl]
    refine .cells (fun j v hj => ?_) (fun j hj => ?_) (fun _ => ⟨by rw [hnl3, hce], ?_⟩)
    · rw [hnl1, r5]
      by_cases hlt3 : j < old.length
      · rw [List.getElem?_append_left hlt3] at hj
        rw [if_neg (by omega)]
        obtain ⟨s1, s2⟩ := span_get hold j (by omega)
        rw [s1] at hj
        obtain ⟨v', q1, q2⟩ := hr _ _ hj
        exact ⟨v', by rw [← q1]; congr 1; omega, q2.mono hle⟩
      · rw [List.getElem?_append_right (by omega)] at hj
        have hlt4 := (List.getElem?_eq_some_iff.1 hj).1
        rw [if_pos (by omega), show l.sh + a.off + j - (l.sh + (a.off + sLen * size) + 0) = j - old.length by omega]
        obtain ⟨v', q1, q2⟩ := hnew.get _ hj
        exact ⟨v', q1, q2.mono hle⟩
    · have hj' : j < k' * size := by
        rcases hj with hj | hj
        · rw [List.length_append] at hj; omega
        · rw [hnl2, hce] at hj; exact hj
      have := hroom j hj'
      rw [hnl1, r4]
      rwa [show l.sh + a.off + j = l.sh + (a.off + j) by omega]
    · rw [hnl2, hnl3, List.length_append]; omega
  have hni : (ρ.with i nl) i = some nl := by simp
  have hnb : nl.blk = l.blk := by rw [hnl]
  have hgne : A.get a.block ≠ none := by rw [hg]; simp
  have hBj2 : ∀ j, j ≠ i → B.get j ≠ none → j ≠ a.block ∧ B.get j = A.get j := fun j h1 h2 => by
    have h3 : j ≠ a.block := fun h => h2 (h ▸ hBa)
    exact ⟨h3, hBget j h1 h3⟩
  refine ⟨w', ρ.with i nl, by rw [hadd]; exact r1, ?_, ⟨?_, ?_, ?_, ?_⟩, ⟨hle, ?_, by omega, by omega, ?_, ?_, r7.1, r7.2.1, r7.2.2⟩⟩
  · refine .slice rfl hni (by omega) ?_ (fun _ => by rw [hnl]; simp [Loc.at])
    unfold CapR
    rw [if_neg (by omega)]
    have : nl.cap = k' := by rw [hnl]
    rw [this]
    exact ⟨by omega, by omega, by omega, Nat.le_refl _, by omega, by simp⟩
  · intro j k e
    by_cases h1 : j = i
    · subst h1; rw [hni] at e; cases e; rw [hnb, r2]; exact ⟨by omega, (hh.dom _ _ hl).2⟩
    · rw [Emb.with_ne h1] at e; rw [r2]; exact ⟨by have := (hh.dom _ _ e).1; omega, (hh.dom _ _ e).2⟩
  · intro x y lx ly ex ey hx hy hxy
    by_cases h1 : x = i
    · by_cases h2 : y = i
      · omega
      · subst h1; rw [hni] at ex; cases ex; rw [Emb.with_ne h2] at ey
        obtain ⟨q1, q2⟩ := hBj2 y h2 hy
        exact absurd (hh.inj _ _ _ _ ey hl (q2 ▸ hy) hgne (by rw [← hxy, hnb])) q1
    · by_cases h2 : y = i
      · subst h2; rw [hni] at ey; cases ey; rw [Emb.with_ne h1] at ex
        obtain ⟨q1, q2⟩ := hBj2 x h1 hx
        exact absurd (hh.inj _ _ _ _ ex hl (q2 ▸ hx) hgne (by rw [hxy, hnb])) q1
      · rw [Emb.with_ne h1] at ex; rw [Emb.with_ne h2] at ey
        exact hh.inj _ _ _ _ ex ey ((hBj2 x h1 hx).2 ▸ hx) ((hBj2 y h2 hy).2 ▸ hy) hxy
  · intro j k o e hj
    by_cases h1 : j = i
    · subst h1; rw [hni] at e; cases e; rw [hBi] at hj; cases hj
      exact ⟨_, by rw [hnb]; exact r3, hobj⟩
    · rw [Emb.with_ne h1] at e
      obtain ⟨q1, q2⟩ := hBj2 j h1 (by rw [hj]; simp)
      rw [q2] at hj
      obtain ⟨x, hx, hrx⟩ := hh.obj _ _ _ e hj
      refine ⟨x, ?_, hrx.mono hle⟩
      rw [r6 _ fun e2 => q1 (hh.inj _ _ _ _ e hl (by rw [hj]; simp) hgne e2)]; exact hx
  · intro j hj
    have h3 : j ≠ i := by omega
    have h4 : j ≠ a.block := by omega
    rw [hBget j h3 h4]; exact hh.top j (by omega)
  · intro j hj e
    rw [Emb.with_ne (by omega)]; exact e
  · intro b hb hn
    exact r6 b fun e => hn ⟨_, l, hl, hgne, e.symm⟩
  · rintro b hb ⟨j, k, e, hj, he⟩
    by_cases h1 : j = i
    · subst h1; rw [hni] at e; cases e; exact ⟨_, l, hl, hgne, by rw [← hnb]; exact he⟩
    · rw [Emb.with_ne h1] at e
      obtain ⟨q1, q2⟩ := hBj2 j h1 hj
      exact ⟨j, k, e, q2 ▸ hj, he⟩

end
end Go.AI

/- What each operation does, part twelve: append, whole. -/
namespace Go.AI

section
variable {P : Program} {N : Nat} {ρ : Emb} {A : AHeap} {w : World}

theorem loadFrom_heap {w1 w2 : World} (e : w1.heap = w2.heap) (hf : ∀ a b, w2.farLoad P a b = w1.farLoad P a b) (a : Addr) : ∀ (n i : Nat) (acc c : Array Value), (loadCellsFrom a i n acc).run P w1 = .ok c w1 → (loadCellsFrom a i n acc).run P w2 = .ok c w2
  | 0, i, acc, c, h => by
    simp only [loadCellsFrom, Sem.run_pure] at h ⊢
    cases h; rfl
  | n + 1, i, acc, c, h => by
    have ec : w2.cell? (a.add i) = w1.cell? (a.add i) := by unfold World.cell?; rw [e]
    simp only [loadCellsFrom, Sem.run_bind, run_load, ec, hf] at h ⊢
    cases hc : w1.cell? (a.add i) with
    | none =>
      simp only [hc] at h ⊢
      split at h
      · simp only [Result.andThen_ok] at h ⊢
        exact loadFrom_heap e hf a n (i + 1) _ _ h
      · simp at h
    | some v =>
      simp only [hc, Result.andThen_ok] at h ⊢
      exact loadFrom_heap e hf a n (i + 1) _ _ h

theorem firstCells_heap {w1 w2 : World} (e : w1.heap = w2.heap) (hf : ∀ a b, w2.farLoad P a b = w1.farLoad P a b) (size n : Nat) (x : Value) (c : Array Value) (h : (Builtin.firstCells size n x).run P w1 = .ok c w1) : (Builtin.firstCells size n x).run P w2 = .ok c w2 := by
  unfold Builtin.firstCells at h ⊢
  split at h
  · exact loadFrom_heap e hf _ _ _ _ _ h
  · simp only [Sem.run_pure] at h ⊢; cases h; rfl
  · simp only [Sem.run_pure] at h ⊢; cases h; rfl
  · simp at h

theorem zeroOf_cells {e : TypeId} {z : Value} (h : zeroOf P e = some z) : VRs ρ (cellsOf z) (cellsOf z) := (VR.of_flat (zeroOf_eq h).1).cells

theorem appendOf_run (hh : HR P ρ A w) {t e ty : TypeId} {rest : List TypeId} {i : TypeInfo} {zz : Value} (hu : P.underlying t = some (.slice e)) (hi : P.info? e = some i) (hz : zeroOf P e = some zz)
    (hzs : (cellsOf zz).length = i.size) (hb0 : 0 < i.bytes) {base : Option Addr} {sLen sCap n : Nat} {x' s' : Value} {new new' : List Value} (hs : VR ρ (.slice base sLen sCap) s')
    (hx : AppR P rest e i.size i.bytes w x' n new') (hnew : VRs ρ new new') (hlen : new.length = n * i.size) {v : Value} {B : AHeap} (hg : aappendOf P i.size i.bytes e base sLen sCap n new A = some (v, B)) :
    ∃ v' w' ρ', (Builtin.append_ ⟨t :: rest⟩ ty #[s', x']).run P w = .ok v' w' ∧ VR ρ' v v' ∧ HR P ρ' B w' ∧ Ext A.next ρ A w ρ' B w' := by
  have hse : sizeAt P e = some i.size := by simp [sizeAt, hi]
  have hzz := (zeroOf_eq hz).2
  have hzsz : zz.cells.size = i.size := by simpa [cellsOf] using hzs
  have hd : HR P ρ A w.drew := hh.congr rfl
  have hnil : ∀ k' : Nat, k' = 0 → sLen + n ≤ k' → new = [] := fun k' h1 h2 => List.length_eq_zero_iff.1 (by rw [hlen, show n = 0 by omega]; simp)
  -- in place, where the cells are known
  have inplace : ∀ {a a' : Addr} {l : Loc} {k' : Nat} {A2 : AHeap}, a.spot = none → ρ a.block = some l → CapR l a.off sCap k' → (0 < k' → a' = l.at a) → sLen + n ≤ k' → awrite A (a.add (sLen * i.size)) new = some A2 →
      ∃ v' w' ρ', (Builtin.append_ ⟨t :: rest⟩ ty #[.slice (some a') sLen k', x']).run P w = .ok v' w' ∧ VR ρ' (.slice (some a) (sLen + n) sCap) v' ∧ HR P ρ' A2 w' ∧ Ext A.next ρ A w ρ' A2 w' := by
    intro a a' l k' A2 hsp hl hk ha hfit hw
    obtain ⟨p1, p2, p3⟩ := at_add l a hsp (sLen * i.size)
    obtain ⟨w', r1, r2, r3⟩ := hh.write (P := P) (a := a.add (sLen * i.size)) (by rw [p3]; exact hl) hnew hw
    have hst : (storeCells (a'.add (sLen * i.size)) new').run P w = .ok () w' := by
      rcases Nat.eq_zero_or_pos k' with h0 | h0
      · have : new = [] := hnil k' h0 hfit
        subst this
        have : new' = [] := List.length_eq_zero_iff.1 hnew.length
        subst this
        simpa [storeCells] using r1
      · rw [ha h0, ← p1]; exact r1
    exact ⟨_, w', ρ, append_fits hu hi hx hfit hst, .slice hsp hl hfit hk ha, r2, r3⟩
  -- in a row of its own
  have grows : ∀ {base' : Option Addr} {k' : Nat} {old old' : List Value} {A1 : AHeap}, HR P ρ A1 w → A1.next = A.next → Ext A.next ρ A w ρ A1 w → (Builtin.firstCells i.size sLen (.slice base' sLen k')).run P w.drew = .ok ⟨old'⟩ w.drew → VRs ρ old old' → old.length = sLen * i.size →
      ¬ sLen + n ≤ k' → (sLen + n) * i.bytes ≤ 2 ^ 40 → sLen + n ≤ 2 ^ 40 → ∀ {j : Nat} {A2 : AHeap}, A1.push (.cells (old ++ new) e) = some (j, A2) →
      ∃ v' w' ρ', (Builtin.append_ ⟨t :: rest⟩ ty #[.slice base' sLen k', x']).run P w = .ok v' w' ∧ VR ρ' (.slice (some ⟨j, 0, none⟩) (sLen + n) (2 * big)) v' ∧ HR P ρ' A2 w' ∧ Ext A.next ρ A w ρ' A2 w' := by
    intro base' k' old old' A1 h1 hn1 hx1 hold hr hol hfit h40 h41 j A2 hp
    obtain ⟨hp', rfl⟩ := push_next hp
    have hrun := append_grows (ty := ty) (base := base') hu hi hzz hx hfit h40 h41 hb0 hold
    have hlaid := grown_laid h1 (need := sLen + n) hse (hr.append hnew) (by rw [List.length_append, hol, hlen, ← Nat.add_mul]) (by omega) h41 k' (z := zz.cells) hzsz
    obtain ⟨ρ', q1, q2, q3⟩ := h1.laid hp' hlaid
    refine ⟨_, _, ρ', hrun.trans ?_, q1, q2, hx1.trans q3 (by omega)⟩
    have e2 : (old' ++ new').toArray ++ Builtin.zeroCells zz.cells (grownCap w (sLen + n) k' e - (sLen + n)) = old'.toArray ++ (new'.toArray ++ Builtin.zeroCells zz.cells (grownCap w (sLen + n) k' e - (sLen + n))) := by
      rw [← Array.append_assoc]; simp
    rw [e2]
  unfold aappendOf at hg
  simp only [Bool.cond_eq_ite, Bool.and_eq_true, Bool.not_eq_true', Bool.and_eq_false_imp, ble_iff, blt_iff] at hg
  split at hg
  · cases hg
  rename_i h4
  have h40 : (sLen + n) * i.bytes ≤ 2 ^ 40 ∧ sLen + n ≤ 2 ^ 40 := by
    have h4' := Classical.not_imp.1 h4
    exact ⟨h4'.1, by have := h4'.2; simpa [Nat.ble_eq] using this⟩
  split at hg
  · rename_i hb
    split at hg
    · rename_i hfit
      cases base with
      | none =>
        dsimp only at hg
        cases hg
        cases hs
        exact ⟨_, w, ρ, append_fits hu hi hx hfit rfl, .snil _ _, hh, .refl _ _ _ _⟩
      | some a =>
        dsimp only at hg
        split at hg
        · rename_i A2 hw
          cases hg
          cases hs with
          | @slice _ a' l _ _ k' hsp hl hn hk ha =>
            have hc : k' = sCap := by unfold CapR at hk; rwa [if_pos hb] at hk
            exact inplace hsp hl hk ha (by omega) hw
        · cases hg
    · rename_i hfit
      split at hg
      · rename_i old ho
        split at hg
        · rename_i j A2 hp
          cases hg
          obtain ⟨old', r1, r2, r3⟩ := srcCells_run (P := P) hd hs ho
          cases hs with
          | snil => exact grows hh rfl (.refl _ _ _ _) r1 r2 r3 hfit h40.1 h40.2 hp
          | @slice _ a' l _ _ k' hsp hl hn hk ha =>
            have hc : k' = sCap := by unfold CapR at hk; rwa [if_pos hb] at hk
            subst hc
            exact grows hh rfl (.refl _ _ _ _) r1 r2 r3 hfit h40.1 h40.2 hp
        · cases hg
      · cases hg
  · rename_i hb
    cases base with
    | none => cases hg
    | some a =>
      dsimp only at hg
      split at hg
      · cases hg
      rename_i vs hrow
      cases hs with
      | @slice _ a' l _ _ k' hsp hl hn hk ha =>
      obtain ⟨z0, z1, z2⟩ := hh.room hrow hl hk hb
      split at hg
      · rename_i hfit
        split at hg
        · rename_i A2 hw
          cases hg
          exact inplace hsp hl hk ha (z2 _ hfit) hw
        · cases hg
      · split at hg
        · rename_i old ho
          split at hg
          · rename_i hc
            split at hg
            · rename_i j A2 hp
              cases hg
              by_cases hfit : sLen + n ≤ k'
              · obtain ⟨w', ρ', q1, q2, q3, q4⟩ := hh.rename hrow hl hk hb ho hnew hlen hc.1.1 hc.1.2 hfit hse hc.2 hp
                have hst : (storeCells (a'.add (sLen * i.size)) new').run P w = .ok () w' := by rw [ha (by omega)]; exact q1
                exact ⟨_, w', ρ', append_fits hu hi hx hfit hst, by rw [ha (by omega)]; exact q2, q3, q4⟩
              · obtain ⟨e0, hsp0, hg0, _, _⟩ := rowOf_some hrow
                have hsrc : srcCells i.size sLen (.slice (some a) sLen sCap) A = some old := by
                  simp [srcCells, cellsAt, hsp0, hg0, ho, Nat.ble_eq_true_of_le (Nat.le_refl sLen)]
                obtain ⟨old', r1, r2, r3⟩ := srcCells_run (P := P) hd (.slice hsp hl hn hk ha) hsrc
                obtain ⟨d1, d2⟩ := hh.drop (i := a.block) (hh.dom _ _ hl).1 (AHeap.lt_of_get hg0)
                exact grows d1 rfl d2 r1 r2 r3 hfit h40.1 h40.2 hp
            · cases hg
          · cases hg
        · cases hg

theorem append_ok (t : TypeId) (s x : Operand) (rest : List TypeId) (z : Bool) (hzo : zerosOf P rest = some z) (ty : TypeId) :
    ActsOK P N (.call { callee := .builtin .append, args := ⟨[s, x]⟩, argTypes := ⟨t :: rest⟩ }) ty (with2 N s x (aappend P t z)) := by
  intro env A v A' he ρ w act o hh e1 e2 hr
  obtain ⟨a, b, h1, h2, h3⟩ := with2_some he
  have rs := hr s (by simp [Op.operands, Call.operands]) _ h1
  have rx := hr x (by simp [Op.operands, Call.operands]) _ h2
  have main : ∃ v' w' ρ', (Builtin.append_ ⟨t :: rest⟩ ty #[act.eval s, act.eval x]).run P w = .ok v' w' ∧ VR ρ' v v' ∧ HR P ρ' A' w' ∧ Ext A.next ρ A w ρ' A' w' := by
    generalize act.eval s = s' at rs
    generalize act.eval x = x' at rx
    unfold aappend at h3
    cases hu : P.underlying t with
    | none => simp [hu] at h3
    | some dd =>
    rw [hu] at h3
    cases dd with
    | slice e =>
      dsimp only at h3
      cases hi : P.info? e with
      | none => simp [hi] at h3
      | some i =>
      cases hz : zeroOf P e with
      | none => simp [hi, hz] at h3
      | some zz =>
      simp only [hi, hz, Bool.cond_eq_ite, Bool.and_eq_true, beq_iff, blt_iff] at h3
      split at h3
      · rename_i hc
        cases a with
        | slice base sLen sCap =>
          dsimp only at h3
          cases z with
          | true =>
            simp only [if_true] at h3
            split at h3
            · rename_i n hn
              obtain ⟨k, rfl⟩ := natOf_some hn
              rw [rx.int_inv]
              split at h3
              · rename_i hn40
                rw [ble_iff] at hn40
                have hzs : zz.cells.size = i.size := by simpa [cellsOf] using hc.1.1
                have hb : n * i.bytes ≤ 2 ^ 40 := by
                  unfold aappendOf at h3
                  simp only [Bool.cond_eq_ite, Bool.not_eq_true', Bool.and_eq_false_imp, ble_iff] at h3
                  split at h3
                  · cases h3
                  · rename_i h4
                    have h4' := (Classical.not_imp.1 h4).1
                    exact Nat.le_trans (Nat.mul_le_mul_right _ (by omega)) h4'
                refine appendOf_run hh hu hi hz hc.1.1 hc.2 rs (.zeros hzo hn40 hb (zeroOf_eq hz).2 hzs) ((zeroOf_cells hz).repl n) ?_ h3
                rw [repl_length, hc.1.1]
              · cases h3
            · cases h3
          | false =>
            simp only [Bool.false_eq_true, if_false] at h3
            split at h3
            · rename_i n hn
              split at h3
              · rename_i new hnew
                obtain ⟨new', r1, r2, r3⟩ := srcCells_run (P := P) hh rx hnew
                exact appendOf_run hh hu hi hz hc.1.1 hc.2 rs (.row hzo (lenAt_run rx hn w) r1 (lenAt_run rx hn w.drew) (firstCells_heap (w1 := w) (w2 := w.drew) rfl (fun a b => rfl) _ _ _ _ r1)) r2 r3 h3
              · cases h3
            · cases h3
        | _ => simp at h3
      · cases h3
    | _ => simp at h3
  obtain ⟨v', w', ρ', r1, r2, r3, r4⟩ := main
  exact ⟨.value v', v', w', ρ', by simp [execOp, e1, e2, resolve, invoke, builtin, r1], .inl rfl, r2, r3, r4⟩

end
end Go.AI
