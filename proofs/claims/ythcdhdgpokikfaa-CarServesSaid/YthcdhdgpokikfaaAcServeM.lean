/- Choices of jobs: plain mathematics. -/
import Derived.Test.YthcdhdgpokikfaaAcRServe
namespace Go.AM.Car
theorem bits_mem {set n : Nat} {x : Int} : x ∈ bitsOf set n ↔ ∃ i : Nat, x = i ∧ i < n ∧ set / 2 ^ i % 2 = 1 := by
  unfold bitsOf
  rw [List.mem_map]
  constructor
  · rintro ⟨i, hi, rfl⟩
    rw [List.mem_filter, List.mem_range] at hi
    exact ⟨i, rfl, hi.1, by simpa using hi.2⟩
  · rintro ⟨i, rfl, h1, h2⟩
    exact ⟨i, by rw [List.mem_filter, List.mem_range]; exact ⟨h1, by simpa using h2⟩, rfl⟩
theorem bits_in {l : List Job} {set : Nat} (h : l.length ≤ 20) : ChIn l (bitsOf set l.length) := by
  refine ⟨fun c hc => ?_, fun k x y hk hx hy => ?_, Nat.le_trans bits_len h⟩
  · obtain ⟨i, rfl, h1, _⟩ := bits_mem.1 hc
    omega
  · have hp : (bitsOf set l.length).Pairwise (· < ·) := by
      unfold bitsOf
      rw [List.pairwise_map]
      exact (List.pairwise_lt_range.filter _).imp (fun h => by omega)
    rw [List.pairwise_iff_getElem] at hp
    obtain ⟨h1, h2⟩ := List.getElem?_eq_some_iff.1 hx
    obtain ⟨h3, h4⟩ := List.getElem?_eq_some_iff.1 hy
    have := hp (k - 1) k h3 h1 (by omega)
    rw [h2, h4] at this
    exact this
theorem wS_snoc {l : List Job} {c : Int} {j : Job} (hj : l[c.toNat]? = some j) (r : List Int) : wS l (r ++ [c]) = ((wS l r).1 + j.value, (wS l r).2 + j.minutes) := by
  induction r with
  | nil => simp [wS, hj]
  | cons x r ih =>
    rw [List.cons_append, wS, wS, ih]
    cases l[x.toNat]? with
    | none => rfl
    | some q => simp only [Prod.mk.injEq]; omega
def okI (l : List Job) (set i : Nat) : Prop := ∀ j, l[i]? = some j → (set / 2 ^ i % 2 = 0 → j.must = false) ∧ (set / 2 ^ i % 2 ≠ 0 → ∀ n ∈ j.needs, set / 2 ^ n.toNat % 2 ≠ 0)
theorem wGo_pre {l : List Job} {set : Nat} : ∀ k, k ≤ l.length → ((∀ i, i < k → okI l set i) ∧ wGo set 0 l 0 0 = wGo set k (l.drop k) (wS l (bitsOf set k)).1 (wS l (bitsOf set k)).2) ∨ ((∃ i, i < l.length ∧ ¬okI l set i) ∧ wGo set 0 l 0 0 = none) := by
  intro k
  induction k with
  | zero => exact fun _ => .inl ⟨fun i hi => by omega, rfl⟩
  | succ k ih =>
    intro hk
    rcases ih (by omega) with ⟨h1, h2⟩ | h
    · obtain ⟨j, hj⟩ : ∃ j, l[k]? = some j := ⟨_, List.getElem?_eq_getElem (by omega)⟩
      have drop : l.drop k = j :: l.drop (k + 1) := by
        obtain ⟨g1, g2⟩ := List.getElem?_eq_some_iff.1 hj
        rw [List.drop_eq_getElem_cons g1, g2]
      rw [drop, wGo] at h2
      have next : okI l set k → ∀ i, i < k + 1 → okI l set i := fun h i hi => by
        by_cases e : i = k
        · rw [e]; exact h
        · exact h1 i (by omega)
      by_cases hb : set / 2 ^ k % 2 = 0
      · rw [if_pos hb] at h2
        cases hm : j.must with
        | true =>
          rw [hm, if_pos rfl] at h2
          exact .inr ⟨⟨k, by omega, fun h => by have := (h j hj).1 hb; rw [hm] at this; cases this⟩, h2⟩
        | false =>
          rw [hm, if_neg (by simp)] at h2
          refine .inl ⟨next (fun j' hj' => ?_), ?_⟩
          · rw [hj] at hj'; injection hj' with hj'; subst hj'
            exact ⟨fun _ => hm, fun h => absurd hb h⟩
          · rw [bits_succ, if_neg (by omega), List.append_nil]; exact h2
      · rw [if_neg hb] at h2
        by_cases hn : ∀ n ∈ j.needs, set / 2 ^ n.toNat % 2 ≠ 0
        · rw [if_pos hn] at h2
          refine .inl ⟨next (fun j' hj' => ?_), ?_⟩
          · rw [hj] at hj'; injection hj' with hj'; subst hj'
            exact ⟨fun h => absurd h hb, fun _ => hn⟩
          · rw [bits_succ, if_pos (by omega), wS_snoc (j := j) (by simpa using hj)]
            exact h2
        · rw [if_neg hn] at h2
          exact .inr ⟨⟨k, by omega, fun h => hn ((h j hj).2 hb)⟩, h2⟩
    · exact .inr h
theorem choice_ok {l : List Job} {m : Int} {set : Nat} (ho : JobsOk l) : ChoiceOk l m (bitsOf set l.length) ↔ (∀ i, i < l.length → okI l set i) ∧ (wS l (bitsOf set l.length)).2 ≤ m := by
  constructor
  · rintro ⟨h1, h2, h3⟩
    refine ⟨fun i hi j hj => ⟨fun hb => ?_, fun hb n hn => ?_⟩, h3⟩
    · cases hm : j.must with
      | false => rfl
      | true =>
        obtain ⟨i', e, _, h⟩ := bits_mem.1 (h2 i j hj hm)
        rw [show i' = i by omega] at h
        omega
    · obtain ⟨q, rfl, _, h⟩ := bits_mem.1 (h1 i (bits_mem.2 ⟨i, rfl, hi, by omega⟩) j (by simpa using hj) n hn)
      simp only [Int.toNat_natCast]
      omega
  · rintro ⟨h1, h3⟩
    refine ⟨fun c hc j hj n hn => ?_, fun i j hj hm => ?_, h3⟩
    · obtain ⟨i, rfl, hi, hb⟩ := bits_mem.1 hc
      simp only [Int.toNat_natCast] at hj
      have hjo := (ho.2 i j hj).2.2.2.2
      obtain ⟨q, hq⟩ := List.getElem?_of_mem hn
      obtain ⟨n1, n2, _⟩ := hjo q n hq
      have := (h1 i hi j hj).2 (by omega) n hn
      exact bits_mem.2 ⟨n.toNat, by omega, by omega, by omega⟩
    · have hi : i < l.length := (List.getElem?_eq_some_iff.1 hj).1
      refine bits_mem.2 ⟨i, rfl, hi, ?_⟩
      rcases Nat.mod_two_eq_zero_or_one (set / 2 ^ i) with h | h
      · rw [(h1 i hi j hj).1 h] at hm; cases hm
      · exact h
theorem wGo_yes {l : List Job} {set : Nat} (h : ∀ i, i < l.length → okI l set i) : wGo set 0 l 0 0 = some (wS l (bitsOf set l.length)) := by
  rcases wGo_pre (l := l) (set := set) l.length (Nat.le_refl _) with ⟨_, h2⟩ | ⟨⟨i, h1, h2⟩, _⟩
  · rw [h2, List.drop_length, wGo]
  · exact absurd (h i h1) h2
theorem wGo_no {l : List Job} {set : Nat} (h : ¬∀ i, i < l.length → okI l set i) : wGo set 0 l 0 0 = none := by
  rcases wGo_pre (l := l) (set := set) l.length (Nat.le_refl _) with ⟨h1, _⟩ | ⟨_, h2⟩
  · exact absurd h1 h
  · exact h2
theorem stepB_no {l : List Job} {m : Int} {set : Nat} {s : Option Ch} (ho : JobsOk l) (h : ¬ChoiceOk l m (bitsOf set l.length)) : stepB l m s set = s := by
  unfold stepB
  by_cases hk : ∀ i, i < l.length → okI l set i
  · rw [wGo_yes hk]
    have : ¬(wS l (bitsOf set l.length)).2 ≤ m := fun h2 => h ((choice_ok ho).2 ⟨hk, h2⟩)
    simp only
    rw [if_neg this]
  · rw [wGo_no hk]
theorem stepB_yes {l : List Job} {m : Int} {set : Nat} {s : Option Ch} (ho : JobsOk l) (h : ChoiceOk l m (bitsOf set l.length)) : stepB l m s set = match (generalizing := false) s with
    | none => some ⟨set, (wS l (bitsOf set l.length)).1, (wS l (bitsOf set l.length)).2⟩
    | some b => some (if betterS ⟨set, (wS l (bitsOf set l.length)).1, (wS l (bitsOf set l.length)).2⟩ b then ⟨set, (wS l (bitsOf set l.length)).1, (wS l (bitsOf set l.length)).2⟩ else b) := by
  obtain ⟨h1, h2⟩ := (choice_ok ho).1 h
  unfold stepB
  rw [wGo_yes h1]
  simp only
  rw [if_pos h2]
  cases s <;> rfl
theorem bits_top {set n : Nat} (h : set < 2 ^ n) (hn : n ≤ 20) : bitsOf set 20 = bitsOf set n := bits_more (Nat.div_eq_of_lt h) hn
theorem better_iff {a b : Ch} {n : Nat} (ha : a.set < 2 ^ n) (hb : b.set < 2 ^ n) (hn : n ≤ 20) : betterS a b = true ↔ b.value < a.value ∨ a.value = b.value ∧ (a.time < b.time ∨ a.time = b.time ∧ cmpS (bitsOf a.set n) (bitsOf b.set n) < 0) := by
  unfold betterS
  rw [bits_top ha hn, bits_top hb hn]
  split
  · rw [decide_eq_true_eq]; omega
  · split
    · rw [decide_eq_true_eq]; omega
    · rw [decide_eq_true_eq]; omega
end Go.AM.Car
