/- Proved: the known rows hold in every memory, and what is answered without a cluster; no condition. -/
import Derived.Test.YtaadikldoljdaaaGreatE1
import Derived.Test.YtaadikldoljdaaaGreatE2

/- The rows that are known: true, whatever lies in memory. -/
namespace Go.Proofs.YtaadikldoljdaaaGreat
open Go.AI Go.RowKit

noncomputable def orcE : Oracle := fun f => bif Nat.beq f 16 then some (fun args A => bif memo1.fits args A then memo1.fn args A else memo2.fn args A) else orc f

theorem orcE_ok : OrcOK Tryz.prog orcE := by
  intro f g hg args A v A' h ρ w args' hh hv
  unfold orcE at hg
  cases h1 : Nat.beq f 16 with
  | false => rw [h1] at hg; exact orc_ok f g hg args A v A' h ρ w args' hh hv
  | true =>
    rw [h1] at hg
    simp only [cond_true, Option.some.injEq] at hg
    subst hg
    have e := Nat.eq_of_beq_eq_true h1
    subst e
    cases h2 : memo1.fits args A with
    | true =>
      simp only [h2, cond_true] at h
      exact memo_ok mixed names orc_ok memo1 memo1_run args A v A' h ρ w args' hh hv
    | false =>
      simp only [h2, cond_false] at h
      exact memo_ok mixed names orc_ok memo2 memo2_run args A v A' h ρ w args' hh hv

set_option maxRecDepth 1000000 in
theorem known_run : resTrue (fcall Tryz.prog orcE 100 6 [] .empty) = true := by decide +kernel

theorem known_calls (w : World) : Calls Tryz.prog 6 #[] w fun e w' => e = .returned (.bool true) ∧ Below w.heap.size w w' :=
  closed_call mixed names orcE_ok (by kernel_rfl) known_run w

/-- A call without arguments that hands back a bool and leaves what there was. -/
theorem callOK_of_below {P : Program} (hnames : namesOK P = true) {f : FuncId} {fn : Func} {code : Code} (hf : P.funcs[f]? = some fn) (hb : fn.body = some code) {b : Bool}
    (h : ∀ w, Calls P f #[] w fun e w' => e = .returned (.bool b) ∧ Below w.heap.size w w') {ρ : Emb} {A : AHeap} {w : World} (hh : HR P ρ A w) : CallOK P ρ A w f [] (.bool b) A := by
  refine .inl ⟨enters_ok hnames hf hb _, (h w).mono ?_⟩
  rintro e w' ⟨rfl, hbel⟩
  refine ⟨.bool b, rfl, ρ, .bool b, ⟨fun i l hl => ⟨(hh.dom i l hl).1, Nat.lt_of_lt_of_le (hh.dom i l hl).2 hbel.size⟩, hh.inj, fun i l o hl ho => ?_, hh.top⟩,
    ⟨.refl _, fun _ _ h => h, Nat.le_refl _, hbel.size, fun b hb _ => hbel.block b hb, fun _ _ h => h, hbel.os, hbel.output, hbel.tape⟩⟩
  obtain ⟨o', h1, h2⟩ := hh.obj i l o hl ho
  exact ⟨o', by rw [hbel.block _ (hh.dom i l hl).2]; exact h1, h2⟩

def trueF : List Value → AHeap → AR := fun args A => match args with
  | [] => some (.bool true, A)
  | _ => none

noncomputable def orcK : Oracle := fun f => bif Nat.beq f 6 then some trueF else orc f

theorem orcK_ok : OrcOK Tryz.prog orcK := by
  intro f g hg args A v A' h ρ w args' hh hv
  unfold orcK at hg
  cases h1 : Nat.beq f 6 with
  | false => rw [h1] at hg; exact orc_ok f g hg args A v A' h ρ w args' hh hv
  | true =>
    rw [h1] at hg
    simp only [cond_true, Option.some.injEq] at hg
    subst hg
    have e := Nat.eq_of_beq_eq_true h1
    subst e
    unfold trueF at h
    split at h
    · cases h
      cases hv
      have hb : Tryz.f6.body.isSome = true := by kernel_rfl
      obtain ⟨c, hc⟩ := Option.isSome_iff_exists.1 hb
      exact callOK_of_below names Tryz.func6 hc known_calls hh
    · cases h

set_option maxRecDepth 1000000 in
theorem linearNil_run : resTrue (fcall Tryz.prog orcK 100 4 [] .empty) = true := by decide +kernel

theorem linearNil_calls (w : World) : Calls Tryz.prog 4 #[] w fun e w' => e = .returned (.bool true) ∧ Below w.heap.size w w' :=
  closed_call mixed names orcK_ok (by kernel_rfl) linearNil_run w

end Go.Proofs.YtaadikldoljdaaaGreat
