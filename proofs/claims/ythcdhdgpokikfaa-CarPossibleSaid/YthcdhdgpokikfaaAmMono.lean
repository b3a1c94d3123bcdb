/- More fuel changes no answer. -/
import Derived.Test.YthcdhdgpokikfaaAmDefs
namespace Go.AM

section
variable {P : Program}
def CLe (f g : CallFn) : Prop := ∀ fc args H r, f fc args H = some r → g fc args H = some r

theorem step1_mono {f g : CallFn} (h : CLe f g) {env : Env} {H : AH} {o : Oper} {r : AV × Del} (hs : step1 P f env H o = some r) : step1 P g env H o = some r := by
  unfold step1 at hs ⊢
  split at hs
  · split at hs
    · rename_i fc hfc
      obtain ⟨x, hx, rfl⟩ := Option.map_eq_some_iff.1 hs
      rw [h _ _ _ _ hx]; rfl
    · cases hs
  · exact hs
theorem stepD_mono {f g : CallFn} (h : CLe f g) {ops : Array Oper} {env : Env} {H : AH} {o : Oper} {r : Env × AH × Option Evt} (hs : stepD P f ops o env H = some r) : stepD P g ops o env H = some r := by
  unfold stepD at hs ⊢
  split at hs
  · split at hs
    · rename_i v d h1
      rw [step1_mono h h1]; exact hs
    · cases hs
  · exact hs
  · cases hs
theorem aops_mono {f g : CallFn} (h : CLe f g) {ops : Array Oper} : ∀ {l : List Oper} {env : Env} {H : AH} {r : Env × AH}, aops P f ops l env H = some r → aops P g ops l env H = some r := by
  intro l
  induction l with
  | nil => intro env H r hs; exact hs
  | cons o l ih =>
    intro env H r hs
    simp only [aops] at hs ⊢
    split at hs
    · rename_i e1 h1 ev hd
      rw [stepD_mono h hd]; exact ih hs
    · cases hs
theorem aopsD_mono {f g : CallFn} (h : CLe f g) {ops : Array Oper} : ∀ {l : List Oper} {i : Nat} {env : Env} {H : AH} {r : Env × AH × List (Nat × Evt)}, aopsD P f ops i l env H = some r → aopsD P g ops i l env H = some r := by
  intro l
  induction l with
  | nil => intro i env H r hs; exact hs
  | cons o l ih =>
    intro i env H r hs
    simp only [aopsD] at hs ⊢
    split at hs
    · rename_i e1 h1 ev hd
      rw [stepD_mono h hd]
      simp only
      split at hs
      · rename_i e2 h2 es he
        rw [ih he]; exact hs
      · cases hs
    · cases hs

theorem callCell_mono {ex ex' : Code → Env → AH → Option (AX × Env × AH)} {ac ac' : FuncId → List AV → AH → Option (AV × Eff)} (h1 : ∀ c env H r, ex c env H = some r → ex' c env H = some r) (h2 : ∀ f args H r, ac f args H = some r → ac' f args H = some r) : CLe (callCell ex ac) (callCell ex' ac') := by
  intro fc args H r h
  unfold callCell at h ⊢
  split at h
  · exact h2 _ _ _ _ h
  · split at h
    · split at h
      · rename_i hl
        rw [if_pos hl]
        split at h
        · rename_i env2 H2 ha
          rw [h1 _ _ _ _ ha]
          simp only
          split at h
          · split at h
            · rename_i hr
              rw [if_pos hr]
              split at h
              · rename_i x e4 H4 hx
                rw [h1 _ _ _ _ hx]
                exact h
              · cases h
            · cases h
          · cases h
        · cases h
      · cases h
    · cases h
  · cases h

theorem mono1 (P : Program) : ∀ n, (∀ c env H r, aexec P n c env H = some r → aexec P (n + 1) c env H = some r) ∧ (∀ f args H r, acall P n f args H = some r → acall P (n + 1) f args H = some r) := by
  intro n
  induction n with
  | zero => exact ⟨fun c env H r h => by simp [aexec] at h, fun f args H r h => by simp [acall] at h⟩
  | succ n ih =>
    obtain ⟨ihE, ihC⟩ := ih
    have hc := callCell_mono ihE ihC
    refine ⟨fun c env H r h => ?_, fun f args H r h => ?_⟩
    · cases c with
      | region id ops draw =>
        rw [aexec] at h ⊢
        cases draw with
        | false =>
          simp only [Bool.false_eq_true, if_false] at h ⊢
          obtain ⟨x, hx, rfl⟩ := Option.map_eq_some_iff.1 h
          rw [aops_mono hc hx]; rfl
        | true =>
          simp only [if_true] at h ⊢
          split at h
          · rename_i e1 H1 es hx
            rw [aopsD_mono hc hx]; exact h
          · cases h
      | seq a b =>
        rw [aexec] at h ⊢
        split at h
        · rename_i e1 H1 hx
          rw [ihE _ _ _ _ hx]; exact ihE _ _ _ _ h
        · rename_i hne
          rw [ihE _ _ _ _ h]
          obtain ⟨x, e1, H1⟩ := r
          cases x with
          | normal => exact absurd h (hne _ _)
          | jump j => rfl
      | cond c a b =>
        rw [aexec] at h ⊢
        split at h
        · exact ihE _ _ _ _ h
        · cases h
      | block id b =>
        rw [aexec] at h ⊢
        split at h
        · rename_i i e1 H1 hx
          rw [ihE _ _ _ _ hx]; exact h
        · rename_i hne
          rw [ihE _ _ _ _ h]
          obtain ⟨x, e1, H1⟩ := r
          cases x with
          | normal => rfl
          | jump j =>
            cases j with
            | exit i => exact absurd h (hne _ _ _)
            | _ => rfl
      | loop b =>
        rw [aexec] at h ⊢
        split at h
        · rename_i e1 H1 hx
          rw [ihE _ _ _ _ hx]; exact ihE _ _ _ _ h
        · rename_i hne
          rw [ihE _ _ _ _ h]
          obtain ⟨x, e1, H1⟩ := r
          cases x with
          | normal => exact absurd h (hne _ _)
          | jump j => rfl
      | scope b =>
        rw [aexec] at h ⊢
        split at h
        · cases h
        · rename_i hne
          rw [ihE _ _ _ _ h]
          obtain ⟨x, e1, H1⟩ := r
          cases x with
          | normal => rfl
          | jump j =>
            cases j with
            | goto i => exact absurd h (hne _ _ _)
            | _ => rfl
      | rangeFunc g ps as bd =>
        rw [aexec] at h ⊢
        split at h
        · rename_i f first caps hg
          simp only at h ⊢
          split at h
          · rename_i r0 e hx
            rw [ihC _ _ _ _ hx]; exact h
          · cases h
        · cases h
      | _ => exact h
    · rw [acall] at h ⊢
      split at h
      · split at h
        · split at h
          · cases h
          · rename_i c hb hn
            simp only [hn]
            split at h
            · rename_i hsh
              simp only [hsh, if_true]
              split at h
              · rename_i e1 H1 hx
                rw [ihE _ _ _ _ hx]; exact h
              · rename_i e1 H1 hx
                rw [ihE _ _ _ _ hx]; exact h
              · cases h
            · rename_i hsh
              simp only [hsh]
              split at h
              · rename_i e1 H1 hx
                rw [ihE _ _ _ _ hx]; exact h
              · rename_i e1 H1 hx
                rw [ihE _ _ _ _ hx]; exact h
              · cases h
        · cases h
      · cases h

theorem aexec_mono {n m : Nat} (h : n ≤ m) {c : Code} {env : Env} {H : AH} {r : AX × Env × AH} (hr : aexec P n c env H = some r) : aexec P m c env H = some r := by
  induction m with
  | zero => have : n = 0 := by omega
            subst this; exact hr
  | succ m ih =>
    by_cases he : n = m + 1
    · subst he; exact hr
    · exact (mono1 P m).1 _ _ _ _ (ih (by omega))
theorem acall_mono {n m : Nat} (h : n ≤ m) {f : FuncId} {args : List AV} {H : AH} {r : AV × Eff} (hr : acall P n f args H = some r) : acall P m f args H = some r := by
  induction m with
  | zero => have : n = 0 := by omega
            subst this; exact hr
  | succ m ih =>
    by_cases he : n = m + 1
    · subst he; exact hr
    · exact (mono1 P m).2 _ _ _ _ (ih (by omega))
end
end Go.AM
