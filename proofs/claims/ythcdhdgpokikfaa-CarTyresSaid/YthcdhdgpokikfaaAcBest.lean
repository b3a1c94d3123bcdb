/- The best plan of tyres: plain mathematics. -/
import Derived.Test.YthcdhdgpokikfaaAcTyresW
namespace Go.AM.Car

/-! The first of the best -/
section
variable {α β : Type} (val : α → Option β) (lt : α × β → α × β → Prop) [DecidableRel lt]
def pickF (s : Option (α × β)) (x : α) : Option (α × β) :=
  match val x with
  | none => s
  | some v => match s with
    | none => some (x, v)
    | some y => if lt (x, v) y then some (x, v) else some y
def Picked (R : α → α → Prop) (l : List α) : Option (α × β) → Prop
  | none => ∀ x ∈ l, val x = none
  | some (x, v) => x ∈ l ∧ val x = some v ∧ ∀ y ∈ l, ∀ w, val y = some w → ¬lt (y, w) (x, v) ∧ (¬lt (x, v) (y, w) → y = x ∨ R x y)
variable {val lt}
theorem pick_snoc (hi : ∀ a, ¬lt a a) (htr : ∀ a b c, lt a b → lt b c → lt a c) (hnt : ∀ a b c, ¬lt a b → ¬lt b c → ¬lt a c) {R : α → α → Prop} {l : List α} {z : α} (hp : ∀ y ∈ l, R y z) {s : Option (α × β)} (h : Picked val lt R l s) : Picked val lt R (l ++ [z]) (pickF val lt s z) := by
  have hs : ∀ y, y ∈ l ++ [z] → y ∈ l ∨ y = z := fun y hy => by
    rcases List.mem_append.1 hy with h | h
    · exact .inl h
    · exact .inr (by simpa using h)
  unfold pickF
  cases hz : val z with
  | none =>
    cases s with
    | none => exact fun x hx => (hs x hx).elim (h x) (fun e => e ▸ hz)
    | some y =>
      obtain ⟨x, v⟩ := y
      obtain ⟨h1, h2, h3⟩ := h
      exact ⟨List.mem_append_left _ h1, h2, fun y hy w hw => (hs y hy).elim (fun h => h3 y h w hw) (fun e => by subst e; rw [hz] at hw; cases hw)⟩
  | some u =>
    cases s with
    | none =>
      refine ⟨by simp, hz, fun y hy w hw => (hs y hy).elim (fun e => by rw [h y e] at hw; cases hw) (fun e => ?_)⟩
      subst e
      rw [hz] at hw; injection hw with hw; subst hw
      exact ⟨hi _, fun _ => .inl rfl⟩
    | some y =>
      obtain ⟨x, v⟩ := y
      obtain ⟨h1, h2, h3⟩ := h
      by_cases hl : lt (z, u) (x, v)
      · simp only [if_pos hl]
        refine ⟨by simp, hz, fun y hy w hw => (hs y hy).elim (fun e => ?_) (fun e => ?_)⟩
        · have := h3 y e w hw
          exact ⟨fun h => this.1 (htr _ _ _ h hl), fun h => absurd hl (hnt _ _ _ h this.1)⟩
        · subst e
          rw [hz] at hw; injection hw with hw; subst hw
          exact ⟨hi _, fun _ => .inl rfl⟩
      · simp only [if_neg hl]
        refine ⟨List.mem_append_left _ h1, h2, fun y hy w hw => (hs y hy).elim (fun e => h3 y e w hw) (fun e => ?_)⟩
        subst e
        rw [hz] at hw; injection hw with hw; subst hw
        exact ⟨hl, fun _ => .inr (hp x h1)⟩
theorem pick_all (hi : ∀ a, ¬lt a a) (htr : ∀ a b c, lt a b → lt b c → lt a c) (hnt : ∀ a b c, ¬lt a b → ¬lt b c → ¬lt a c) {R : α → α → Prop} : ∀ (l' l : List α) (s : Option (α × β)), (l ++ l').Pairwise R → Picked val lt R l s → Picked val lt R (l ++ l') (l'.foldl (pickF val lt) s) := by
  intro l'
  induction l' with
  | nil => intro l s _ h; simpa using h
  | cons z l' ih =>
    intro l s hp h
    have e : l ++ z :: l' = (l ++ [z]) ++ l' := by simp
    rw [e, List.foldl_cons]
    rw [e] at hp
    exact ih _ _ hp (pick_snoc hi htr hnt (fun y hy => (List.pairwise_append.1 (List.pairwise_append.1 hp).1).2.2 y hy z (by simp)) h)
theorem pick_spec (hi : ∀ a, ¬lt a a) (htr : ∀ a b c, lt a b → lt b c → lt a c) (hnt : ∀ a b c, ¬lt a b → ¬lt b c → ¬lt a c) {R : α → α → Prop} {l : List α} (hp : l.Pairwise R) : Picked val lt R l (l.foldl (pickF val lt) none) := by
  have := pick_all (val := val) (lt := lt) hi htr hnt (R := R) l [] none (by simpa using hp) (fun x hx => by cases hx)
  simpa using this
end

/-! Lists, the lesser first -/
theorem lex_at {d a b : List Int} {x y : Int} (h : x < y) : d ++ x :: a < d ++ y :: b := by
  induction d with
  | nil => exact List.Lex.rel h
  | cons z d ih => exact List.Lex.cons ih
theorem lex_app : ∀ {a b : List Int}, a.length = b.length → a < b → ∀ {c d : List Int}, a ++ c < b ++ d := by
  intro a
  induction a with
  | nil => intro b hl h; cases b with
    | nil => exact absurd h (List.lt_irrefl _)
    | cons => cases hl
  | cons x a ih =>
    intro b hl h c d
    cases b with
    | nil => cases hl
    | cons y b =>
      rcases List.cons_lt_cons_iff.1 h with h' | ⟨rfl, h'⟩
      · exact List.Lex.rel h'
      · exact List.Lex.cons (ih (by simpa using hl) h')

/-! All ways to part the loops -/
theorem parts_mem {al : Int} : ∀ {n : Nat} {done : List Int} {used : Int} {xs : List Int} {u : Int}, used ≤ al → 0 ≤ used → ((xs, u) ∈ partsFrom al n done used ↔ ∃ ys, xs = done ++ ys ∧ ys.length = n ∧ scan ys used = some u ∧ u ≤ al) := by
  intro n
  induction n with
  | zero =>
    intro done used xs u hu h0
    simp only [partsFrom, List.mem_singleton, Prod.mk.injEq]
    constructor
    · rintro ⟨rfl, rfl⟩; exact ⟨[], by simp, rfl, rfl, hu⟩
    · rintro ⟨ys, rfl, hy, hs, _⟩
      have := List.length_eq_zero_iff.1 hy
      subst this
      simp only [scan] at hs
      injection hs with hs
      exact ⟨by simp, hs.symm⟩
  | succ n ih =>
    intro done used xs u hu h0
    simp only [partsFrom, List.mem_flatMap, List.mem_range]
    constructor
    · rintro ⟨s, hs, hm⟩
      obtain ⟨ys, rfl, h1, h2, h3⟩ := (ih (by omega) (by omega)).1 hm
      exact ⟨s :: ys, by simp, by simp [h1], by rw [scan, if_pos (by omega)]; exact h2, h3⟩
    · rintro ⟨ys, rfl, h1, h2, h3⟩
      cases ys with
      | nil => cases h1
      | cons s ys =>
        rw [scan] at h2
        split at h2
        · rename_i hs
          obtain ⟨k, rfl⟩ := Int.eq_ofNat_of_zero_le hs.1
          have := (scan_le h2).1
          exact ⟨k, by omega, (ih (by omega) (by omega)).2 ⟨ys, by simp, by simpa using h1, h2, h3⟩⟩
        · cases h2
theorem parts_lex {al : Int} : ∀ {n : Nat} {done : List Int} {used : Int}, used ≤ al → 0 ≤ used → (partsFrom al n done used).Pairwise (fun a b => a.1 < b.1) := by
  intro n
  induction n with
  | zero => intro done used _ _; exact List.pairwise_singleton _ _
  | succ n ih =>
    intro done used hu h0
    rw [partsFrom, List.pairwise_flatMap]
    refine ⟨fun s hs => ih (by rw [List.mem_range] at hs; omega) (by omega), ?_⟩
    refine List.Pairwise.imp_of_mem ?_ List.pairwise_lt_range
    intro s s' hs hs' hlt a ha b hb
    rw [List.mem_range] at hs hs'
    obtain ⟨ys, h1, _⟩ := (parts_mem (xs := a.1) (u := a.2) (by omega) (by omega)).1 ha
    obtain ⟨zs, h2, _⟩ := (parts_mem (xs := b.1) (u := b.2) (by omega) (by omega)).1 hb
    rw [h1, h2, List.append_assoc, List.append_assoc]
    exact lex_at (by omega)

/-! The cheapest compounds of sets -/
theorem opts_mem {cs : List Compound} {ls : List (List Stretch)} {sets : List Int} {j : Int} {o : Opt} : ∀ {i : Nat}, o ∈ optsTo cs ls sets j i ↔ ∃ (k : Nat) (c : Compound), k < i ∧ o.comp = k ∧ cs[k]? = some c ∧ usedS c j ls sets 0 0 = some o.loss := by
  intro i
  induction i with
  | zero => simp [optsTo]
  | succ i ih =>
    rw [optsTo, List.mem_append, ih]
    constructor
    · rintro (⟨k, c, h1, h2⟩ | h)
      · exact ⟨k, c, by omega, h2⟩
      · cases hc : cs[i]? with
        | none => rw [hc] at h; cases h
        | some c =>
          rw [hc] at h
          simp only at h
          cases hu : usedS c j ls sets 0 0 with
          | none => rw [hu] at h; cases h
          | some u =>
            rw [hu] at h
            simp only [List.mem_singleton] at h
            subst h
            exact ⟨i, c, by omega, rfl, hc, hu⟩
    · rintro ⟨k, c, h1, h2, h3, h4⟩
      by_cases hk : k < i
      · exact .inl ⟨k, c, hk, h2, h3, h4⟩
      · obtain rfl : k = i := by omega
        right
        rw [h3]
        simp only [h4, List.mem_singleton]
        cases o
        simp only at h2
        rw [h2]
theorem opts_lt {cs : List Compound} {ls : List (List Stretch)} {sets : List Int} {j : Int} : ∀ {i : Nat}, (optsTo cs ls sets j i).Pairwise (fun a b => a.comp < b.comp) := by
  intro i
  induction i with
  | zero => exact .nil
  | succ i ih =>
    rw [optsTo, List.pairwise_append]
    refine ⟨ih, ?_, fun a ha b hb => ?_⟩
    · cases cs[i]? with
      | none => exact .nil
      | some c =>
        simp only
        cases usedS c j ls sets 0 0 with
        | none => exact .nil
        | some u => exact List.pairwise_singleton _ _
    · obtain ⟨k, c, h1, h2, _⟩ := opts_mem.1 ha
      have : b ∈ optsTo cs ls sets j (i + 1) := by rw [optsTo]; exact List.mem_append_right _ hb
      have hb' : b.comp = i := by
        cases hc : cs[i]? with
        | none => rw [hc] at hb; cases hb
        | some c =>
          rw [hc] at hb
          simp only at hb
          cases hu : usedS c j ls sets 0 0 with
          | none => rw [hu] at hb; cases hb
          | some u => rw [hu] at hb; simp only [List.mem_singleton] at hb; rw [hb]
      omega
theorem firstO : ∀ {l : List Opt} {b : Opt}, (b :: l).Pairwise (fun a b => a.comp < b.comp) → ∀ y ∈ b :: l, (firstS lessO b l).loss ≤ y.loss ∧ ((firstS lessO b l).loss = y.loss → (firstS lessO b l).comp ≤ y.comp) := by
  intro l
  induction l with
  | nil => intro b _ y hy; simp at hy; subst hy; exact ⟨Int.le_refl _, fun _ => Int.le_refl _⟩
  | cons x l ih =>
    intro b hp y hy
    rw [firstS]
    have hb := List.pairwise_cons.1 hp
    have hx := List.pairwise_cons.1 hb.2
    by_cases h : lessO x b = true
    · rw [if_pos h]
      have hl : x.loss < b.loss := by simpa [lessO] using h
      rcases List.mem_cons.1 hy with rfl | hy
      · have := ih hb.2 x (.head _)
        exact ⟨by omega, fun e => by omega⟩
      · exact ih hb.2 y hy
    · rw [if_neg h]
      have hl : ¬x.loss < b.loss := by simpa [lessO] using h
      have hp' : (b :: l).Pairwise (fun a b => a.comp < b.comp) := List.pairwise_cons.2 ⟨fun z hz => hb.1 z (.tail _ hz), hx.2⟩
      rcases List.mem_cons.1 hy with rfl | hy
      · exact ih hp' y (.head _)
      · rcases List.mem_cons.1 hy with rfl | hy
        · have := ih hp' b (.head _)
          have h2 := hb.1 y (.head _)
          exact ⟨by omega, fun e => by have := this.2 (by omega); omega⟩
        · exact ih hp' y (.tail _ hy)
theorem compAt_app {cs : List Compound} {p q : List Int} {t : Nat} (h : t < p.length) : compAt cs (p ++ q) t = compAt cs p t := by
  unfold compAt
  rw [List.getElem?_append_left h]
theorem compAt_last {cs : List Compound} {p : List Int} {k : Nat} {c : Compound} (h : cs[k]? = some c) : compAt cs (p ++ [(k : Int)]) p.length = c := by
  unfold compAt
  simp [h]
def InC (cs : List Compound) (comps : List Int) : Prop := ∀ k ∈ comps, 0 ≤ k ∧ k < cs.length
def lossOfSets (cs : List Compound) (ls : List (List Stretch)) (sets comps : List Int) : Option Int := sumO comps.length (fun t => usedS (compAt cs comps t) t ls sets 0 0)
theorem loss_snoc {cs : List Compound} {ls : List (List Stretch)} {sets p : List Int} {k : Nat} {c : Compound} (h : cs[k]? = some c) : lossOfSets cs ls sets (p ++ [(k : Int)]) = match lossOfSets cs ls sets p, usedS c p.length ls sets 0 0 with
    | some a, some b => some (a + b)
    | _, _ => none := by
  unfold lossOfSets
  rw [List.length_append, List.length_singleton, sumO, compAt_last h, sumO_congr (g := fun t => usedS (compAt cs p t) t ls sets 0 0) (fun t ht => by rw [compAt_app ht])]
  rfl
def PlanIs (cs : List Compound) (ls : List (List Stretch)) (sets : List Int) (n : Nat) : Option (List Int × Int) → Prop
  | none => ∀ q : List Int, q.length = n → InC cs q → lossOfSets cs ls sets q = none
  | some (p, s) => p.length = n ∧ InC cs p ∧ lossOfSets cs ls sets p = some s ∧ ∀ q : List Int, ∀ r, q.length = n → InC cs q → lossOfSets cs ls sets q = some r → s ≤ r ∧ (s = r → p = q ∨ p < q)
theorem planTo_is (cs : List Compound) (ls : List (List Stretch)) (sets : List Int) : ∀ n, PlanIs cs ls sets n (planTo cs ls sets n) := by
  intro n
  induction n with
  | zero =>
    rw [planTo]
    refine ⟨rfl, by unfold InC; simp, rfl, fun q r hq _ h => ?_⟩
    have := List.length_eq_zero_iff.1 hq
    subst this
    simp only [lossOfSets, List.length_nil, sumO] at h
    injection h with h
    exact ⟨by omega, fun _ => .inl rfl⟩
  | succ n ih =>
    have hq : ∀ q : List Int, q.length = n + 1 → InC cs q → ∃ (p' : List Int) (k : Nat) (c : Compound), q = p' ++ [(k : Int)] ∧ p'.length = n ∧ InC cs p' ∧ cs[k]? = some c ∧ k < cs.length := by
      intro q hl hi
      have hne : q ≠ [] := by intro e; rw [e] at hl; cases hl
      obtain ⟨hk1, hk2⟩ := hi _ (List.getLast_mem hne)
      obtain ⟨k, hk⟩ := Int.eq_ofNat_of_zero_le hk1
      refine ⟨q.dropLast, k, cs[k]'(by omega), ?_, by simp [hl], fun x hx => hi x (List.dropLast_subset _ hx), List.getElem?_eq_getElem (by omega), by omega⟩
      rw [← hk]
      exact (List.dropLast_concat_getLast hne).symm
    rw [planTo]
    cases hp : planTo cs ls sets n with
    | none =>
      rw [hp] at ih
      intro q hl hi
      obtain ⟨p', k, c, rfl, h1, h2, h3, _⟩ := hq q hl hi
      rw [loss_snoc h3, ih p' h1 h2]
    | some ps =>
      obtain ⟨p, s⟩ := ps
      rw [hp] at ih
      obtain ⟨i1, i2, i3, i4⟩ := ih
      cases ho : optsTo cs ls sets n cs.length with
      | nil =>
        intro q hl hi
        obtain ⟨p', k, c, rfl, h1, h2, h3, h4⟩ := hq q hl hi
        rw [loss_snoc h3, h1]
        cases hu : usedS c n ls sets 0 0 with
        | none => cases lossOfSets cs ls sets p' <;> rfl
        | some u =>
          have : (⟨k, u⟩ : Opt) ∈ optsTo cs ls sets n cs.length := opts_mem.2 ⟨k, c, h4, rfl, h3, hu⟩
          rw [ho] at this
          cases this
      | cons x l =>
        have hmem := firstS_mem (lt := lessO) (l := l) (b := x)
        have hfirst := firstO (b := x) (l := l) (by rw [← ho]; exact opts_lt)
        show PlanIs cs ls sets (n + 1) (some (p ++ [(firstS lessO x l).comp], s + (firstS lessO x l).loss))
        generalize firstS lessO x l = o at hmem hfirst ⊢
        rw [← ho] at hmem
        obtain ⟨k0, c0, h1, h2, h3, h4⟩ := opts_mem.1 hmem
        refine ⟨by simp [i1], fun k hk => ?_, ?_, fun q r hl hi hr => ?_⟩
        · rcases List.mem_append.1 hk with h | h
          · exact i2 k h
          · simp at h; omega
        · rw [h2, loss_snoc h3, i3, i1, h4]
        · obtain ⟨p', k, c, rfl, g1, g2, g3, g4⟩ := hq q hl hi
          rw [loss_snoc g3, g1] at hr
          cases hs' : lossOfSets cs ls sets p' with
          | none => rw [hs'] at hr; cases hr
          | some s' =>
            cases hu : usedS c n ls sets 0 0 with
            | none => rw [hs', hu] at hr; cases hr
            | some u =>
              rw [hs', hu] at hr
              injection hr with hr
              have f1 := hfirst ⟨k, u⟩ (by rw [← ho]; exact opts_mem.2 ⟨k, c, g4, rfl, g3, hu⟩)
              have f2 := i4 p' s' g1 g2 hs'
              simp only at f1
              refine ⟨by omega, fun e => ?_⟩
              have e1 := f1.2 (by omega)
              rcases f2.2 (by omega) with rfl | hlt
              · by_cases hk : o.comp = k
                · left; rw [hk]
                · right; exact lex_at (by omega)
              · right; exact lex_app (by omega) hlt

/-! The best plan -/
def KeyLt (a b : List Int × List Int) : Prop := a.2.length < b.2.length ∨ a.2.length = b.2.length ∧ (a.1 < b.1 ∨ a.1 = b.1 ∧ a.2 < b.2)
def BestP (cs : List Compound) (ls : List (List Stretch)) (al : Int) (x : List Int × List Int) (v : Int) : Prop :=
  PossS cs ls al x.1 x.2 = some v ∧ ∀ y w, PossS cs ls al y.1 y.2 = some w → v < w ∨ v = w ∧ (x = y ∨ KeyLt x y)
theorem key_asymm {a b : List Int × List Int} (h : KeyLt a b) (g : KeyLt b a) : False := by
  rcases h with h | ⟨h1, h | ⟨h2, h3⟩⟩ <;> rcases g with g | ⟨g1, g | ⟨g2, g3⟩⟩ <;> try omega
  · exact List.lt_asymm h g
  · rw [g2] at h; exact List.lt_irrefl _ h
  · rw [h2] at g; exact List.lt_irrefl _ g
  · exact List.lt_asymm h3 g3
theorem best_uniq {cs : List Compound} {ls : List (List Stretch)} {al : Int} {x y : List Int × List Int} {v w : Int} (h : BestP cs ls al x v) (g : BestP cs ls al y w) : x = y ∧ v = w := by
  have h1 := h.2 y w g.1
  have h2 := g.2 x v h.1
  rcases h1 with h1 | ⟨h1, h1' | h1'⟩
  · omega
  · exact ⟨h1', h1⟩
  · rcases h2 with h2 | ⟨h2, h2' | h2'⟩
    · omega
    · exact ⟨h2'.symm, h1⟩
    · exact (key_asymm h1' h2').elim
theorem poss_pre {cs : List Compound} {ls : List (List Stretch)} {al : Int} {s k : List Int} {v : Int} (h : PossS cs ls al s k = some v) : Pre cs ls al s k ∧ lossOfSets cs ls s k = some v := by
  unfold PossS at h
  split at h
  · rename_i hp; exact ⟨hp, h⟩
  · cases h
theorem poss_of {cs : List Compound} {ls : List (List Stretch)} {al : Int} {s k : List Int} (h : Pre cs ls al s k) : PossS cs ls al s k = lossOfSets cs ls s k := by
  unfold PossS; rw [if_pos h]; rfl

abbrev valT (cs : List Compound) (ls : List (List Stretch)) (p : List Int × Int) : Option (List Int × Int) := planTo cs ls p.1 p.2.toNat
def ltT (a b : (List Int × Int) × (List Int × Int)) : Prop := a.2.2 < b.2.2 ∨ a.2.2 = b.2.2 ∧ a.2.1.length < b.2.1.length
noncomputable instance : DecidableRel ltT := fun _ _ => Classical.propDecidable _
def outT (x : (List Int × Int) × (List Int × Int)) : List Int × List Int × Int := (x.1.1, x.2.1, x.2.2)
theorem step_pick {cs : List Compound} {ls : List (List Stretch)} {p : List Int × Int} (hp : 0 ≤ p.2) {s : Option ((List Int × Int) × (List Int × Int))} : stepS cs ls (s.map outT) p = (pickF (valT cs ls) ltT s p).map outT := by
  unfold stepS pickF
  have hi := planTo_is cs ls p.1 p.2.toNat
  cases hv : planTo cs ls p.1 p.2.toNat with
  | none => simp only [valT, hv]
  | some cl =>
    rw [hv] at hi
    have hlen := hi.1
    obtain ⟨c, l⟩ := cl
    simp only [valT, hv]
    cases s with
    | none => rfl
    | some y =>
      obtain ⟨⟨bs, bn⟩, bc, bl⟩ := y
      simp only [Option.map_some, outT]
      have e : (l < bl ∨ l = bl ∧ p.2 < bc.length) ↔ ltT (p, c, l) ((bs, bn), bc, bl) := by unfold ltT; simp only at hlen ⊢; omega
      by_cases h : ltT (p, c, l) ((bs, bn), bc, bl)
      · rw [if_pos h, if_pos (e.2 h)]; rfl
      · rw [if_neg h, if_neg (fun g => h (e.1 g))]; rfl
theorem fold_pick {cs : List Compound} {ls : List (List Stretch)} : ∀ {l : List (List Int × Int)} {s : Option ((List Int × Int) × (List Int × Int))}, (∀ p ∈ l, 0 ≤ p.2) → l.foldl (stepS cs ls) (s.map outT) = (l.foldl (pickF (valT cs ls) ltT) s).map outT := by
  intro l
  induction l with
  | nil => intro s _; rfl
  | cons p l ih =>
    intro s h
    rw [List.foldl_cons, List.foldl_cons, step_pick (h p (.head _)), ih (fun q hq => h q (.tail _ hq))]
def TyresIs (cs : List Compound) (ls : List (List Stretch)) (al : Int) : Best → Prop
  | none => ∀ s k, PossS cs ls al s k = none
  | some (s, k, v) => BestP cs ls al (s, k) v
theorem tyresS_is {cs : List Compound} {ls : List (List Stretch)} {al : Int} (ha : 1 ≤ al) : TyresIs cs ls al (TyresS cs ls al) := by
  have hmem : ∀ p, p ∈ partsFrom al ls.length [] 0 ↔ p.1.length = ls.length ∧ scan p.1 0 = some p.2 ∧ p.2 ≤ al := fun p => by
    rw [show p = (p.1, p.2) from rfl, parts_mem (by omega) (by omega)]
    simp
  have h0 := fold_pick (cs := cs) (ls := ls) (l := partsFrom al ls.length [] 0) (s := none) (fun p hp => (scan_le ((hmem p).1 hp).2.1).1)
  simp only [Option.map_none] at h0
  unfold TyresS
  rw [h0]
  have h1 := pick_spec (val := valT cs ls) (lt := ltT) (fun a => by unfold ltT; omega) (fun a b c => by unfold ltT; omega) (fun a b c => by unfold ltT; omega) (parts_lex (al := al) (n := ls.length) (done := []) (used := 0) (by omega) (by omega))
  cases hf : (partsFrom al ls.length [] 0).foldl (pickF (valT cs ls) ltT) none with
  | none =>
    rw [hf] at h1
    intro s k
    cases hv : PossS cs ls al s k with
    | none => rfl
    | some v =>
      obtain ⟨hp, hl⟩ := poss_pre hv
      have := h1 (s, (k.length : Int)) ((hmem _).2 ⟨hp.2.1, hp.2.2.1, hp.1⟩)
      have hi := planTo_is cs ls s k.length
      simp only [valT, Int.toNat_natCast] at this
      rw [this] at hi
      rw [hi k rfl hp.2.2.2] at hl
      cases hl
  | some y =>
    obtain ⟨⟨s, n⟩, k, v⟩ := y
    rw [hf] at h1
    obtain ⟨h2, h3, h4⟩ := h1
    obtain ⟨m1, m2, m3⟩ := (hmem _).1 h2
    simp only at m1 m2 m3
    have hn := (scan_le m2).1
    have hi := planTo_is cs ls s n.toNat
    simp only [valT] at h3
    rw [h3] at hi
    obtain ⟨i1, i2, i3, i4⟩ := hi
    have hpre : Pre cs ls al s k := ⟨by omega, m1, by rw [m2]; congr 1; omega, i2⟩
    refine ⟨by rw [poss_of hpre]; exact i3, fun y w hw => ?_⟩
    obtain ⟨hp, hl⟩ := poss_pre hw
    have hm := (hmem (y.1, (y.2.length : Int))).2 ⟨hp.2.1, hp.2.2.1, hp.1⟩
    have hi' := planTo_is cs ls y.1 y.2.length
    cases hv' : planTo cs ls y.1 y.2.length with
    | none => rw [hv'] at hi'; rw [hi' y.2 rfl hp.2.2.2] at hl; cases hl
    | some cl =>
      obtain ⟨k', v'⟩ := cl
      rw [hv'] at hi'
      obtain ⟨j1, j2, j3, j4⟩ := hi'
      have a1 := h4 _ hm (k', v') (by simp only [valT, Int.toNat_natCast]; exact hv')
      have a2 := j4 y.2 w rfl hp.2.2.2 hl
      have a3 : ¬(v' < v ∨ v' = v ∧ k'.length < k.length) := a1.1
      by_cases hlt : v < w
      · exact .inl hlt
      right
      have hvw : v = w := by omega
      refine ⟨hvw, ?_⟩
      by_cases hkl : k.length < y.2.length
      · exact .inr (.inl hkl)
      · have a4 : ¬(v < v' ∨ v = v' ∧ k.length < k'.length) := by omega
        rcases a1.2 a4 with e | hR
        · injection e with e1 e2
          have hk : k'= k := by
            have : planTo cs ls s n.toNat = some (k', v') := by rw [← e1, ← hv']; congr 1; omega
            rw [h3] at this; injection this with this; injection this with this; exact this.symm
          subst hk
          rcases a2.2 (by omega) with h | h
          · left; exact Prod.ext e1.symm h
          · right; right; exact ⟨(by omega : k'.length = y.2.length), .inr ⟨e1.symm, h⟩⟩
        · right; right
          exact ⟨(by omega : k.length = y.2.length), .inl hR⟩
end Go.AM.Car
