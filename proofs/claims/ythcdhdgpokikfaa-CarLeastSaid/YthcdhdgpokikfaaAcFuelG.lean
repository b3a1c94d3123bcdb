/- The document's search for the least amounts: plain mathematics. -/
import Derived.Test.YthcdhdgpokikfaaAcFuel
namespace Go.AM.Car

structure FG (tank reserve start : Int) (l : List Leg) (z q m : Nat) (a : List Int) : Prop where
  len : a.length = l.length
  bd : ∀ (j : Nat) x y, l[j]? = some x → a[j]? = some y → 0 ≤ y ∧ y ≤ x.fill
  zero : ∀ (j : Nat) y, z ≤ j → a[j]? = some y → y = 0
  low : ∀ j, j < q → reserve ≤ start + psl a (j + 1) - MS l (j + 1)
  hi : ∀ j, j < l.length → start + psl a (j + 1) - LS l j ≤ tank
  le : ∀ w, SP tank reserve start l w → ∀ j, j ≤ m → psl a j ≤ psl w j

section
variable {tank reserve start : Int} {l : List Leg} {i : Nat} {a : List Int}
theorem LS_mono (h : ∀ x ∈ l, legOk x = true) : ∀ {i j : Nat}, i ≤ j → LS l i ≤ LS l j := by
  intro i j hij
  induction j with
  | zero => rw [show i = 0 by omega]; omega
  | succ j ih =>
    by_cases hj : i = j + 1
    · subst hj; omega
    · have h1 := ih (by omega)
      by_cases hl : j < l.length
      · have hx := List.getElem?_eq_getElem hl
        have hk := h _ (List.getElem_mem hl)
        simp only [legOk, decide_eq_true_eq] at hk
        rw [LS_succ hx]
        omega
      · rw [show LS l (j + 1) = LS l j from psl_over (by simp; omega)]
        exact h1
theorem psl_flat {z : Nat} (h : ∀ (j : Nat) y, z ≤ j → a[j]? = some y → y = 0) : ∀ j, z ≤ j → psl a j = psl a z := by
  intro j hj
  induction j with
  | zero => rw [show z = 0 by omega]
  | succ j ih =>
    by_cases he : z = j + 1
    · subst he; rfl
    · by_cases hl : j < a.length
      · have hy := List.getElem?_eq_getElem hl
        have := h j _ (by omega) hy
        rw [psl_succ hy, ih (by omega), this]
        omega
      · rw [psl_over (by omega), ih (by omega)]
theorem FG.next (g : FG tank reserve start l i i i a) (hi : i < l.length) : FG tank reserve start l (i + 1) i (i + 1) a := by
  refine ⟨g.len, g.bd, fun j y hj => g.zero j y (by omega), g.low, g.hi, fun w hw j hj => ?_⟩
  by_cases he : j = i + 1
  · subst he
    have h1 := g.le w hw i (Nat.le_refl _)
    have h2 := hw.le (List.getElem?_eq_getElem hi)
    have h3 := psl_flat g.zero (i + 1) (by omega)
    omega
  · exact g.le w hw j (by omega)
theorem FG.done (g : FG tank reserve start l (i + 1) i (i + 1) a) (h : reserve ≤ start + psl a (i + 1) - MS l (i + 1)) : FG tank reserve start l (i + 1) (i + 1) (i + 1) a :=
  ⟨g.len, g.bd, g.zero, fun j hj => by
    by_cases he : j = i
    · subst he; exact h
    · exact g.low j (by omega), g.hi, g.le⟩
theorem FG.fin (g : FG tank reserve start l l.length l.length l.length a) : Least tank reserve start l a :=
  ⟨⟨g.len, fun j x y hx hy => by
    have hj := (List.getElem?_eq_some_iff.1 hx).1
    have h1 := g.bd j x y hx hy
    have h2 := g.hi j hj
    have h3 := g.low j hj
    omega⟩, g.le⟩
/-- Between two places the sums grow by no more than what fits. -/
theorem part_le (hlen : a.length = l.length) {w : List Int} (hw : SP tank reserve start l w) {k : Nat} (hs : ∀ (t : Nat) x y, k ≤ t → t ≤ i → l[t]? = some x → a[t]? = some y → y = x.fill) : ∀ d j, j + d = i + 1 → k ≤ j → i < l.length → psl w (i + 1) - psl w j ≤ psl a (i + 1) - psl a j := by
  intro d
  induction d with
  | zero =>
    intro j hj _ _
    rw [show j = i + 1 by omega]
    omega
  | succ d ih =>
    intro j hj hk hi
    have h1 := ih (j + 1) (by omega) (by omega) hi
    have hx := List.getElem?_eq_getElem (show j < l.length by omega)
    have hy := List.getElem?_eq_getElem (show j < a.length by omega)
    have h2 := hw.le hx
    have h3 := hs j _ _ hk (by omega) hx hy
    rw [psl_succ hy] at *
    omega
theorem FG.step (hleg : ∀ x ∈ l, legOk x = true) (g : FG tank reserve start l (i + 1) i (i + 1) a) {k : Nat} {x0 : Leg} {y0 more : Int} (hi : i < l.length) (hk : k ≤ i) (hx0 : l[k]? = some x0) (hy0 : a[k]? = some y0) (hm : 0 < more) (hf : y0 + more ≤ x0.fill)
    (hh : ∀ j, k ≤ j → j ≤ i → start + psl a (j + 1) - LS l j + more ≤ tank) (hlow : start + psl a (i + 1) - MS l (i + 1) + more ≤ reserve) (hs : ∀ (t : Nat) x y, k < t → t ≤ i → l[t]? = some x → a[t]? = some y → y = x.fill) :
    FG tank reserve start l (i + 1) i (i + 1) (a.set k (y0 + more)) := by
  have hkl := (List.getElem?_eq_some_iff.1 hy0).1
  have hset : ∀ {j : Nat} {y : Int}, (a.set k (y0 + more))[j]? = some y → (j = k ∧ y = y0 + more) ∨ (j ≠ k ∧ a[j]? = some y) := fun {j y} h => by
    by_cases hjk : k = j
    · rw [hjk, List.getElem?_set_self (by have := (List.getElem?_eq_some_iff.1 h).1; simpa using this)] at h
      injection h with h
      exact .inl ⟨hjk.symm, h.symm⟩
    · rw [List.getElem?_set_ne hjk] at h
      exact .inr ⟨fun e => hjk e.symm, h⟩
  have hps : ∀ j, psl (a.set k (y0 + more)) j = psl a j + if k < j then more else 0 := fun j => by
    rw [psl_set hy0]
    split <;> omega
  refine ⟨by rw [List.length_set]; exact g.len, fun j x y hx hy => ?_, fun j y hj hy => ?_, fun j hj => ?_, fun j hj => ?_, fun w hw j hj => ?_⟩
  · rcases hset hy with ⟨h1, rfl⟩ | ⟨_, hy'⟩
    · rw [h1, hx0] at hx
      injection hx with hx
      subst hx
      have := g.bd k _ _ hx0 hy0
      omega
    · exact g.bd j x y hx hy'
  · rcases hset hy with ⟨h1, rfl⟩ | ⟨_, hy'⟩
    · omega
    · exact g.zero j y hj hy'
  · have := g.low j hj
    rw [hps]
    split <;> omega
  · rw [hps]
    have h0 := g.hi j hj
    split
    · by_cases hji : j ≤ i
      · have := hh j (by omega) hji
        omega
      · have h1 := hh i hk (Nat.le_refl _)
        have h2 := psl_flat g.zero (j + 1) (by omega)
        have h3 := LS_mono hleg (show i ≤ j by omega)
        omega
    · omega
  · rw [hps]
    have h0 := g.le w hw j hj
    split
    · have h1 := part_le g.len hw (i := i) (k := k + 1) (fun t x y h1 h2 => hs t x y (by omega) h2) (i + 1 - j) j (by omega) (by omega) hi
      have h2 := (hw.at (List.getElem?_eq_getElem hi)).2
      omega
    · omega
/-- What there is filled up with, or the tank is full. -/
def Sat (tank start : Int) (l : List Leg) (i : Nat) (a : List Int) (k : Int) : Prop := ∀ (t : Nat) x y, k < t → t ≤ i → l[t]? = some x → a[t]? = some y → y = x.fill ∨ ∃ j, t ≤ j ∧ j ≤ i ∧ start + psl a (j + 1) - LS l j = tank
theorem FG.fail (g : FG tank reserve start l (i + 1) i (i + 1) a) (hi : i < l.length) (hlow : start + psl a (i + 1) - MS l (i + 1) < reserve) (hs : Sat tank start l i a (-1)) : ∀ w, ¬SP tank reserve start l w := by
  intro w hw
  have main : ∀ d m, m + d = i + 1 → psl w (i + 1) ≤ psl a (i + 1) ∨ ∀ m', m ≤ m' → m' ≤ i + 1 → psl w (i + 1) - psl w m' ≤ psl a (i + 1) - psl a m' := by
    intro d
    induction d with
    | zero =>
      intro m hm
      refine .inr (fun m' h1 h2 => ?_)
      rw [show m' = i + 1 by omega]
      omega
    | succ d ih =>
      intro m hm
      rcases ih (m + 1) (by omega) with h | h
      · exact .inl h
      · have hx := List.getElem?_eq_getElem (show m < l.length by omega)
        have hy := List.getElem?_eq_getElem (show m < a.length by have := g.len; omega)
        rcases hs m _ _ (by omega) (by omega) hx hy with h1 | ⟨j, h1, h2, h3⟩
        · refine .inr (fun m' h4 h5 => ?_)
          by_cases he : m' = m
          · subst he
            have h6 := h (m' + 1) (by omega) (by omega)
            have h7 := hw.le hx
            rw [psl_succ hy] at h6
            omega
          · exact h m' (by omega) h5
        · have h4 := h (j + 1) (by omega) (by omega)
          have h5 := (hw.at (List.getElem?_eq_getElem (show j < l.length by omega))).1
          exact .inl (by omega)
  have h2 := (hw.at (List.getElem?_eq_getElem hi)).2
  rcases main (i + 1) 0 (by omega) with h | h
  · omega
  · have := h 0 (by omega) (by omega)
    rw [psl_zero, psl_zero] at this
    omega
end
end Go.AM.Car
