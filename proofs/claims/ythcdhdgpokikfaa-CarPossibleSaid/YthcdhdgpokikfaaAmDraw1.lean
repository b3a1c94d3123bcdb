/- What an operation looks at. -/
import Derived.Test.YthcdhdgpokikfaaAmSound6
namespace Go.AM

theorem mapM_congr' {α β : Type} {f g : α → Option β} : ∀ {l : List α}, (∀ x ∈ l, f x = g x) → l.mapM f = l.mapM g := by
  intro l
  induction l with
  | nil => intro _; rfl
  | cons a l ih => intro h; rw [List.mapM_cons, List.mapM_cons, h a (by simp), ih (fun x hx => h x (by simp [hx]))]
theorem all_congr' {α : Type} {f g : α → Bool} : ∀ {l : List α}, (∀ x ∈ l, f x = g x) → l.all f = l.all g := by
  intro l
  induction l with
  | nil => intro _; rfl
  | cons a l ih => intro h; rw [List.all_cons, List.all_cons, h a (by simp), ih (fun x hx => h x (by simp [hx]))]

section
variable {P : Program} {nw : Nat} {bl : Nat → Blk} {env env' : Env} {o : Oper}

theorem plainOp_congr (hs : ∀ cs b, o.op ≠ .select cs b) (h : ∀ x ∈ o.op.operands, evo env' x = evo env x) : plainOp P env' o = plainOp P env o := by
  unfold plainOp
  have h1 : o.op.operands.toList.all (fun x => ((evo env' x).toV).isSome) = o.op.operands.toList.all (fun x => ((evo env x).toV).isSome) := all_congr' (fun x hx => by rw [h x (by simpa using hx)])
  have h2 : execOp (fun x => ((evo env' x).toV).getD undef) o = execOp (fun x => ((evo env x).toV).getD undef) o := execOp_congr o hs (fun x hx => by rw [h x hx])
  rw [h1, h2]

theorem aopBuiltin_congr {c : Call} {b : Builtin} (hop : o.op = .call c) (hb : c.callee = .builtin b) (h : ∀ x ∈ o.op.operands, evo env' x = evo env x) : aopBuiltin P nw bl env' o c b = aopBuiltin P nw bl env o c b := by
  have hpl := plainOp_congr (P := P) (env := env) (env' := env') (o := o) (fun cs b hc => by rw [hop] at hc; cases hc) h
  have hargs : ∀ x ∈ c.args.toList, evo env' x = evo env x := fun x hx => h x (by
    rw [hop]; simp only [Op.operands, Call.operands, hb]
    simpa using hx)
  cases b with
  | len =>
    dsimp only [aopBuiltin]
    split
    · rename_i x hx
      rw [hargs x (by rw [hx]; simp), hpl]
    · rfl
  | append =>
    dsimp only [aopBuiltin]
    split
    · rename_i s x t t' hx ht
      rw [hargs s (by rw [hx]; simp), hargs x (by rw [hx]; simp)]
    · rfl
  | max => exact hpl
  | min => exact hpl
  | _ => rfl

theorem aop_congr (h : ∀ x ∈ o.op.operands, evo env' x = evo env x) : aop P nw bl env' o = aop P nw bl env o := by
  have hpl := plainOp_congr (P := P) (env := env) (env' := env') (o := o)
  unfold aop
  cases hop : o.op with
  | call c =>
    simp only
    split
    · rename_i b hb
      exact aopBuiltin_congr hop hb h
    · rfl
  | build t ps =>
    rw [hop] at h
    simp only [Op.operands] at h
    have : ps.toList.mapM (fun p => ((evo env' p.2).cells).map fun cs => (p.1, cs)) = ps.toList.mapM (fun p => ((evo env p.2).cells).map fun cs => (p.1, cs)) := mapM_congr' (fun p hp => by rw [h p.2 (by simp; exact ⟨p.1, by simpa using hp⟩)])
    simp only [this]
  | buildSlice t n ps =>
    rw [hop] at h
    simp only [Op.operands] at h
    have : ps.toList.mapM (fun p => ((evo env' p.2).cells).map fun cs => (p.1, cs)) = ps.toList.mapM (fun p => ((evo env p.2).cells).map fun cs => (p.1, cs)) := mapM_congr' (fun p hp => by rw [h p.2 (by simp; exact ⟨p.1, by simpa using hp⟩)])
    simp only [this]
  | makeFunc f xs ys =>
    rw [hop] at h
    simp only [Op.operands] at h
    have h1 : xs.toList.mapM (fun x => (evo env' x).cell) = xs.toList.mapM (fun x => (evo env x).cell) := mapM_congr' (fun x hx => by rw [h x (by simp; exact .inl (by simpa using hx))])
    have h2 : ys.toList.mapM (fun x => (evo env' x).cell) = ys.toList.mapM (fun x => (evo env x).cell) := mapM_congr' (fun x hx => by rw [h x (by simp; exact .inr (by simpa using hx))])
    simp only [h1, h2]
  | slice t x lo hi mx =>
    rw [hop] at h
    simp only [Op.operands] at h
    have hx := h x (by simp)
    have h1 : lo.map (evo env') = lo.map (evo env) := by cases lo with | none => rfl | some y => simp only [Option.map_some]; rw [h y (by simp)]
    have h2 : hi.map (evo env') = hi.map (evo env) := by cases hi with | none => rfl | some y => simp only [Option.map_some]; rw [h y (by simp)]
    have h3 : mx.map (evo env') = mx.map (evo env) := by cases mx with | none => rfl | some y => simp only [Option.map_some]; rw [h y (by simp)]
    simp only [hx, h1, h2, h3]
  | binOp op t x y ty =>
    have hpl := hpl (fun cs b hc => by rw [hop] at hc; cases hc) h
    rw [hop] at h
    simp only [Op.operands] at h
    have hx := h x (by simp)
    have hy := h y (by simp)
    simp only [eqNil, hx, hy, hpl]
  | index t x y =>
    have hpl := hpl (fun cs b hc => by rw [hop] at hc; cases hc) h
    rw [hop] at h
    simp only [Op.operands] at h
    have hx := h x (by simp)
    have hy := h y (by simp)
    simp only [hx, hy, hpl]
  | unOp _ _ x => exact hpl (fun cs b hc => by rw [hop] at hc; cases hc) h
  | convert _ _ x => exact hpl (fun cs b hc => by rw [hop] at hc; cases hc) h
  | pick c a b =>
    rw [hop] at h
    simp only [Op.operands] at h
    simp only [h c (by simp), h a (by simp), h b (by simp)]
  | store t x y =>
    rw [hop] at h
    simp only [Op.operands] at h
    simp only [h x (by simp), h y (by simp)]
  | makeSlice t x y =>
    rw [hop] at h
    simp only [Op.operands] at h
    simp only [h x (by simp), h y (by simp)]
  | indexAddr t x y =>
    rw [hop] at h
    simp only [Op.operands] at h
    simp only [h x (by simp), h y (by simp)]
  | move x | assign x | box _ x | load _ x | nilCheck x | fieldAddr _ x _ | field _ x _ | extract x _ =>
    rw [hop] at h
    simp only [Op.operands] at h
    simp only [h x (by simp)]
  | _ => rfl

/-! ### The heap -/
variable {bl' : Nat → Blk}
theorem rowsOf_bl {sz : Nat} {c : Cell} (h : ∀ k ∈ refsC c, bl' k = bl k) : rowsOf bl' sz c = rowsOf bl sz c := by
  cases c with
  | sl hd n lo len => simp only [rowsOf, h hd (by simp [refsC])]
  | sc v => unfold rowsOf; split <;> first | rfl | (simp_all; done)
  | _ => rfl
theorem lenOf_bl {c : Cell} (h : ∀ k ∈ refsC c, bl' k = bl k) : lenOf bl' c = lenOf bl c := by
  cases c with
  | mp hd => simp only [lenOf, h hd (by simp [refsC])]
  | sc v => unfold lenOf; split <;> first | rfl | (simp_all; done)
  | _ => rfl
theorem rdPtr_bl {n : Nat} {c : Cell} (h : ∀ k ∈ refsC c, bl' k = bl k) : rdPtr bl' n c = rdPtr bl n c := by
  cases c with
  | bp hd off => simp only [rdPtr, h hd (by simp [refsC])]
  | ep a sz i off => simp only [rdPtr, rowsOf_bl (c := a) (fun k hk => h k (by simpa [refsC] using hk))]
  | _ => rfl
theorem wrPtr_bl {v : List Cell} {c : Cell} (h : ∀ k ∈ refsC c, bl' k = bl k) : wrPtr bl' v c = wrPtr bl v c := by
  cases c with
  | bp hd off => simp only [wrPtr, h hd (by simp [refsC])]
  | ep a sz i off =>
    cases a with
    | sl hd n lo len => simp only [wrPtr, h hd (by simp [refsC])]
    | _ => rfl
  | _ => rfl
theorem sliceA_bl {sz : Nat} {c : Cell} {lo hi mx : Option AV} (h : ∀ k ∈ refsC c, bl' k = bl k) : sliceA bl' sz c lo hi mx = sliceA bl sz c lo hi mx := by
  unfold sliceA
  rw [rowsOf_bl h, lenOf_bl h]

variable {nw' : Nat} {v : AV} {d : Option (Nat × Blk)}
theorem appendA_bl {sz bytes : Nat} {s : Cell} {new : List (List Cell)} (hl : ∀ k ∈ refsC s, bl' k = bl k) (hn : ∀ b, d = some (nw, b) → nw' = nw) (h : appendA nw bl sz bytes s new = some (v, d)) : appendA nw' bl' sz bytes s new = some (v, d) := by
  have key : ∀ t : Cell, t = .e0 ∨ t = .sc (.slice none 0 0) → appendA nw bl sz bytes t new = some (v, d) → appendA nw' bl' sz bytes t new = some (v, d) := by
    intro t ht h
    rcases ht with rfl | rfl <;>
    · simp only [appendA] at h ⊢
      split at h
      · rename_i he; rw [if_pos he]; exact h
      · rename_i he
        rw [if_neg he]
        split at h
        · rename_i hle
          rw [if_pos hle]
          injection h with h; injection h with h1 h2
          have e := hn _ h2.symm
          rw [e, ← h1, ← h2]
        · cases h
  cases s with
  | sl hd n lo len => simp only [appendA, hl hd (by simp [refsC])] at h ⊢; exact h
  | e0 => exact key _ (.inl rfl) h
  | sc u =>
    by_cases hu : u = .slice none 0 0
    · subst hu; exact key _ (.inr rfl) h
    · have : appendA nw bl sz bytes (.sc u) new = none := by
        unfold appendA
        split <;> split <;> first | rfl | (simp_all; done)
      rw [this] at h; cases h
  | _ => simp [appendA] at h

theorem cell_refs {x : AV} {c : Cell} (h : x.cell = some c) : refsV x = refsC c := by
  cases x with
  | one c' => simp only [AV.cell] at h; injection h with h; subst h; rfl
  | _ => simp [AV.cell] at h

theorem aopBuiltin_bl {c : Call} {b : Builtin} (hop : o.op = .call c) (hb : c.callee = .builtin b) (hl : ∀ k ∈ looks env o, bl' k = bl k) (hn : ∀ b, d = some (nw, b) → nw' = nw) (h : aopBuiltin P nw bl env o c b = some (v, d)) :
    aopBuiltin P nw' bl' env o c b = some (v, d) := by
  have hk : ∀ x ∈ c.args.toList, ∀ q, (evo env x).cell = some q → ∀ k ∈ refsC q, bl' k = bl k := by
    intro x hx q hq k hk
    apply hl
    unfold looks
    rw [hop]
    obtain ⟨callee, args, ats⟩ := c
    simp only at hb
    subst hb
    simp only [List.mem_flatMap]
    exact ⟨x, hx, by rw [cell_refs hq]; exact hk⟩
  cases b with
  | len =>
    dsimp only [aopBuiltin] at h ⊢
    split at h
    · rename_i x hx
      split at h
      · rename_i u hu; exact h
      · rename_i hd hu
        rw [lenOf_bl (hk x (by rw [hx]; simp) _ hu)]
        exact h
      · rename_i q h1 h2 hq
        rw [lenOf_bl (hk x (by rw [hx]; simp) _ hq)]
        exact h
      · cases h
    · cases h
  | append =>
    dsimp only [aopBuiltin] at h ⊢
    split at h
    · rename_i s x t t' hx ht
      split at h
      · rename_i htt
        rw [if_pos htt]
        split at h
        · rename_i e sc xc h1 h2 h3
          split at h
          · rename_i i hi
            rw [rowsOf_bl (hk x (by rw [hx]; simp) _ h3)]
            split at h
            · split at h
              · split at h
                · rename_i hc
                  rw [if_pos hc]
                  exact appendA_bl (hk s (by rw [hx]; simp) _ h2) hn h
                · cases h
              · cases h
            · cases h
          · cases h
        · cases h
      · cases h
    · cases h
  | _ => exact h


/-- An operation looks at its operands' blocks alone; a new block's handle counts where one is laid. -/
theorem aop_bl (hl : ∀ k ∈ looks env o, bl' k = bl k) (hn : ∀ b, d = some (nw, b) → nw' = nw) (h : aop P nw bl env o = some (v, d)) : aop P nw' bl' env o = some (v, d) := by
  have new : ∀ {α : Type} {x : Option α} {f : α → AV} {g : α → Blk}, (x.map fun a => (f a, some (nw, g a))) = some (v, d) → nw' = nw := by
    intro α x f g hx
    obtain ⟨a, _, he⟩ := Option.map_eq_some_iff.1 hx
    injection he with h1 h2
    exact hn _ h2.symm
  unfold aop at h ⊢
  cases hop : o.op with
  | call c =>
    rw [hop] at h
    simp only at h ⊢
    split at h
    · rename_i b hb
      exact aopBuiltin_bl hop hb hl hn h
    · cases h
  | alloc e =>
    rw [hop] at h
    simp only at h ⊢
    obtain ⟨z, hz, he⟩ := Option.map_eq_some_iff.1 h
    injection he with h1 h2
    have e' := hn _ h2.symm
    rw [hz, e', ← h1, ← h2]; rfl
  | box t x =>
    rw [hop] at h
    simp only at h ⊢
    obtain ⟨z, hz, he⟩ := Option.map_eq_some_iff.1 h
    injection he with h1 h2
    have e' := hn _ h2.symm
    rw [hz, e', ← h1, ← h2]; rfl
  | buildSlice t n ps =>
    rw [hop] at h
    simp only at h ⊢
    split at h
    · split at h
      · split at h
        · obtain ⟨z, hz, he⟩ := Option.map_eq_some_iff.1 h
          injection he with h1 h2
          have e' := hn _ h2.symm
          rename_i hc
          rw [if_pos hc, hz, e', ← h1, ← h2]; rfl
        · cases h
      · cases h
    · cases h
  | makeMap t r =>
    rw [hop] at h
    simp only at h ⊢
    split at h
    · injection h with h; injection h with h1 h2
      have e' := hn _ h2.symm
      rw [e', ← h1, ← h2]
    · cases h
  | makeSlice t l c =>
    rw [hop] at h
    simp only at h ⊢
    split at h
    · split at h
      · split at h
        · injection h with h; injection h with h1 h2
          have e' := hn _ h2.symm
          rename_i hc
          rw [if_pos hc, e', ← h1, ← h2]
        · cases h
      · cases h
    · cases h
  | load t x =>
    rw [hop] at h
    simp only at h ⊢
    split at h
    · rename_i p hp
      have hk : ∀ k ∈ refsC p, bl' k = bl k := fun k hk => hl k (by unfold looks; rw [hop]; simp only; rw [cell_refs hp]; exact hk)
      simp only [rdPtr_bl hk]
      exact h
    · cases h
  | store t x y =>
    rw [hop] at h
    simp only at h ⊢
    split at h
    · rename_i p cs hp hcs
      have hk : ∀ k ∈ refsC p, bl' k = bl k := fun k hk => hl k (by unfold looks; rw [hop]; simp only; rw [cell_refs hp]; exact hk)
      simp only [wrPtr_bl hk]
      exact h
    · cases h
  | slice t x lo hi mx =>
    rw [hop] at h
    simp only at h ⊢
    split at h
    · rename_i e c h1 hp
      have hk : ∀ k ∈ refsC c, bl' k = bl k := fun k hk => hl k (by unfold looks; rw [hop]; simp only; rw [cell_refs hp]; exact hk)
      simp only [sliceA_bl hk]
      exact h
    · cases h
  | indexAddr t x y =>
    rw [hop] at h
    simp only at h ⊢
    split at h
    · rename_i e c i h1 hp h3
      have hk : ∀ k ∈ refsC c, bl' k = bl k := fun k hk => hl k (by unfold looks; rw [hop]; simp only; rw [cell_refs hp]; exact hk)
      simp only [lenOf_bl hk, rowsOf_bl hk]
      exact h
    · exact h
    · cases h
  | _ => rw [hop] at h; exact h

end
end Go.AM
