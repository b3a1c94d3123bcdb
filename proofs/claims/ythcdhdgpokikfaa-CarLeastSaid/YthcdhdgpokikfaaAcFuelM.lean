/- Least amounts of fuel: plain mathematics. -/
import Derived.Test.YthcdhdgpokikfaaAcSafe
namespace Go.AM.Car

def psl (b : List Int) (n : Nat) : Int := (b.take n).sum
theorem psl_zero (b : List Int) : psl b 0 = 0 := by simp [psl]
theorem psl_succ {b : List Int} {n : Nat} {y : Int} (h : b[n]? = some y) : psl b (n + 1) = psl b n + y := by
  unfold psl
  rw [List.take_add_one, h]
  simp
theorem psl_over {b : List Int} {n : Nat} (h : b.length ≤ n) : psl b (n + 1) = psl b n := by
  unfold psl
  rw [List.take_of_length_le (by omega), List.take_of_length_le (by omega)]
theorem psl_cons {b : List Int} {y : Int} {n : Nat} : psl (y :: b) (n + 1) = y + psl b n := by simp [psl]
theorem psl_set {b : List Int} {k : Nat} {v y : Int} (hk : b[k]? = some y) : ∀ j, psl (b.set k v) j = psl b j + if k < j then v - y else 0 := by
  have hlt := (List.getElem?_eq_some_iff.1 hk).1
  intro j
  induction j with
  | zero => simp [psl_zero]
  | succ j ih =>
    by_cases hj : j < b.length
    · obtain ⟨z, hz⟩ : ∃ z, b[j]? = some z := ⟨_, List.getElem?_eq_getElem hj⟩
      by_cases hkj : k = j
      · subst hkj
        have hzy : z = y := by rw [hk] at hz; injection hz with hz; exact hz.symm
        rw [psl_succ (y := v) (by rw [List.getElem?_set_self hlt]), ih, psl_succ hz, hzy, if_neg (by omega), if_pos (by omega)]
        omega
      · rw [psl_succ (y := z) (by rw [List.getElem?_set_ne hkj]; exact hz), ih, psl_succ hz]
        by_cases h : k < j
        · rw [if_pos h, if_pos (by omega)]; omega
        · rw [if_neg h, if_neg (by omega)]; omega
    · rw [psl_over (by simp; omega), ih, psl_over (by omega), if_pos (by omega), if_pos (by omega)]

def LS (l : List Leg) (n : Nat) : Int := psl (l.map (·.least)) n
def MS (l : List Leg) (n : Nat) : Int := psl (l.map (·.most)) n
theorem LS_succ {l : List Leg} {n : Nat} {x : Leg} (h : l[n]? = some x) : LS l (n + 1) = LS l n + x.least := psl_succ (by rw [List.getElem?_map, h]; rfl)
theorem MS_succ {l : List Leg} {n : Nat} {x : Leg} (h : l[n]? = some x) : MS l (n + 1) = MS l n + x.most := psl_succ (by rw [List.getElem?_map, h]; rfl)

/-- Safe amounts. -/
def SP (tank reserve start : Int) (l : List Leg) (b : List Int) : Prop := b.length = l.length ∧ ∀ (i : Nat) x y, l[i]? = some x → b[i]? = some y → 0 ≤ y ∧ y ≤ x.fill ∧ start + psl b (i + 1) - LS l i ≤ tank ∧ reserve ≤ start + psl b (i + 1) - MS l (i + 1)

theorem safeS_iff {tank reserve : Int} : ∀ {l : List Leg} {b : List Int} {lo hi : Int}, b.length = l.length → (safeS tank reserve lo hi l b = true ↔ ∀ i, i < l.length → hi + psl b (i + 1) - LS l i ≤ tank ∧ reserve ≤ lo + psl b (i + 1) - MS l (i + 1)) := by
  intro l
  induction l with
  | nil => intro b lo hi _; simp [safeS]
  | cons x l ih =>
    intro b lo hi hb
    cases b with
    | nil => simp at hb
    | cons y b =>
      have hb' : b.length = l.length := by simpa using hb
      have e1 : ∀ i, LS (x :: l) (i + 1) = x.least + LS l i := fun i => by simp [LS, psl_cons]
      have e2 : ∀ i, MS (x :: l) (i + 1) = x.most + MS l i := fun i => by simp [MS, psl_cons]
      have z1 : LS (x :: l) 0 = 0 := psl_zero _
      have z2 : MS l 0 = 0 := psl_zero _
      have z3 : LS l 0 = 0 := psl_zero _
      have z4 : psl b 0 = 0 := psl_zero _
      rw [safeS]
      constructor
      · intro h
        split at h
        · cases h
        · rename_i h1
          split at h
          · cases h
          · rename_i h2
            have := (ih hb').1 h
            intro i hi'
            cases i with
            | zero =>
              rw [psl_cons, e2, z1, z2, z4]
              omega
            | succ i =>
              have h3 := this i (by simpa using hi')
              rw [psl_cons, e2, e1]
              omega
      · intro h
        have h0 := h 0 (by simp)
        rw [psl_cons, e2, z1, z2, z4] at h0
        rw [if_neg (by omega), if_neg (by omega), ih hb']
        intro i hi'
        have h3 := h (i + 1) (by simpa using hi')
        rw [psl_cons, e2, e1] at h3
        omega
theorem SafeS_iff {tank reserve start : Int} {l : List Leg} {b : List Int} : SafeS tank reserve start l b = true ↔ SP tank reserve start l b := by
  unfold SafeS SP
  rw [Bool.and_eq_true, Bool.and_eq_true, decide_eq_true_iff]
  constructor
  · rintro ⟨⟨h1, h2⟩, h3⟩
    rw [insideS_iff h1] at h2
    rw [safeS_iff h1] at h3
    refine ⟨h1, fun i x y hx hy => ?_⟩
    have h4 := h2 i x y hx hy
    have h5 := h3 i (List.getElem?_eq_some_iff.1 hx).1
    omega
  · rintro ⟨h1, h2⟩
    refine ⟨⟨h1, ?_⟩, ?_⟩
    · rw [insideS_iff h1]
      intro i x y hx hy
      have := h2 i x y hx hy
      omega
    · rw [safeS_iff h1]
      intro i hi
      have := h2 i _ _ (List.getElem?_eq_getElem hi) (List.getElem?_eq_getElem (by omega))
      omega
/-- The least safe amounts: at each leg the least in all. -/
def Least (tank reserve start : Int) (l : List Leg) (w : List Int) : Prop := SP tank reserve start l w ∧ ∀ x, SP tank reserve start l x → ∀ i, i ≤ l.length → psl w i ≤ psl x i
theorem eq_of_psl : ∀ {a b : List Int}, a.length = b.length → (∀ i, i ≤ a.length → psl a i = psl b i) → a = b := by
  intro a
  induction a with
  | nil => intro b h _; exact (List.length_eq_zero_iff.1 h.symm).symm
  | cons x a ih =>
    intro b h hp
    cases b with
    | nil => simp at h
    | cons y b =>
      have h1 := hp 1 (by simp)
      rw [psl_cons, psl_cons, psl_zero, psl_zero] at h1
      have hxy : x = y := by omega
      subst hxy
      rw [ih (by simpa using h) (fun i hi => by
        have := hp (i + 1) (by simpa using hi)
        rw [psl_cons, psl_cons] at this
        omega)]
theorem Least.uniq {tank reserve start : Int} {l : List Leg} {v w : List Int} (h : Least tank reserve start l v) (g : Least tank reserve start l w) : v = w := by
  refine eq_of_psl (h.1.1.trans g.1.1.symm) (fun i hi => ?_)
  have h1 := h.2 w g.1 i (by have := h.1.1; omega)
  have h2 := g.2 v h.1 i (by have := h.1.1; omega)
  omega
/-- Sums grow. -/
theorem SP.le {tank reserve start : Int} {l : List Leg} {b : List Int} (h : SP tank reserve start l b) {i : Nat} {x : Leg} (hx : l[i]? = some x) : psl b i ≤ psl b (i + 1) ∧ psl b (i + 1) ≤ psl b i + x.fill := by
  have hi := (List.getElem?_eq_some_iff.1 hx).1
  obtain ⟨y, hy⟩ : ∃ y, b[i]? = some y := ⟨_, List.getElem?_eq_getElem (by have := h.1; omega)⟩
  have := h.2 i x y hx hy
  rw [psl_succ hy]
  omega
theorem SP.at {tank reserve start : Int} {l : List Leg} {b : List Int} (h : SP tank reserve start l b) {i : Nat} {x : Leg} (hx : l[i]? = some x) : start + psl b (i + 1) - LS l i ≤ tank ∧ reserve ≤ start + psl b (i + 1) - MS l (i + 1) := by
  have hi := (List.getElem?_eq_some_iff.1 hx).1
  obtain ⟨y, hy⟩ : ∃ y, b[i]? = some y := ⟨_, List.getElem?_eq_getElem (by have := h.1; omega)⟩
  exact (h.2 i x y hx hy).2.2
end Go.AM.Car
