/- The document's search for the best plan: plain mathematics. -/
import Derived.Test.YthcdhdgpokikfaaAcBest
namespace Go.AM.Car

def listsS (b : Nat) : Nat → List (List Int)
  | 0 => [[]]
  | n + 1 => (listsS b n).flatMap fun o => (List.range b).map fun (x : Nat) => o ++ [(x : Int)]
theorem lists_mem {b : Nat} : ∀ {n : Nat} {xs : List Int}, xs ∈ listsS b n ↔ xs.length = n ∧ ∀ x ∈ xs, 0 ≤ x ∧ x < b := by
  intro n
  induction n with
  | zero =>
    intro xs
    rw [listsS, List.mem_singleton, List.length_eq_zero_iff]
    exact ⟨fun h => ⟨h, fun x hx => by rw [h] at hx; cases hx⟩, fun h => h.1⟩
  | succ n ih =>
    intro xs
    rw [listsS, List.mem_flatMap]
    constructor
    · rintro ⟨o, ho, hx⟩
      obtain ⟨k, hk, rfl⟩ := List.mem_map.1 hx
      rw [List.mem_range] at hk
      obtain ⟨h1, h2⟩ := ih.1 ho
      refine ⟨by simp [h1], fun x hx => ?_⟩
      rcases List.mem_append.1 hx with h | h
      · exact h2 x h
      · simp at h; omega
    · rintro ⟨hl, hi⟩
      have hne : xs ≠ [] := by intro e; rw [e] at hl; cases hl
      obtain ⟨hk1, hk2⟩ := hi _ (List.getLast_mem hne)
      obtain ⟨k, hk⟩ := Int.eq_ofNat_of_zero_le hk1
      refine ⟨xs.dropLast, ih.2 ⟨by simp [hl], fun x hx => hi x (List.dropLast_subset _ hx)⟩, List.mem_map.2 ⟨k, by rw [List.mem_range]; omega, ?_⟩⟩
      rw [← hk]
      exact List.dropLast_concat_getLast hne
theorem lists_lex {b : Nat} : ∀ {n : Nat}, (listsS b n).Pairwise (· < ·) := by
  intro n
  induction n with
  | zero => exact List.pairwise_singleton _ _
  | succ n ih =>
    rw [listsS, List.pairwise_flatMap]
    refine ⟨fun o _ => ?_, ?_⟩
    · rw [List.pairwise_map]
      exact List.pairwise_lt_range.imp (fun h => lex_at (by omega))
    · refine List.Pairwise.imp_of_mem ?_ ih
      intro o o' ho ho' hlt a ha c hc
      obtain ⟨_, _, rfl⟩ := List.mem_map.1 ha
      obtain ⟨_, _, rfl⟩ := List.mem_map.1 hc
      exact lex_app ((lists_mem.1 ho).1.trans (lists_mem.1 ho').1.symm) hlt
abbrev plansOf (C L n : Nat) : List (List Int × List Int) := (listsS n L).flatMap fun s => (listsS C n).map fun k => (s, k)
def AllS (C L al : Nat) : List (List Int × List Int) := (List.range (al + 1)).flatMap fun n => plansOf C L n
theorem plans_mem {C L n : Nat} {x : List Int × List Int} : x ∈ plansOf C L n ↔ x.1 ∈ listsS n L ∧ x.2 ∈ listsS C n := by
  rw [List.mem_flatMap]
  constructor
  · rintro ⟨s, hs, hx⟩
    obtain ⟨k, hk, rfl⟩ := List.mem_map.1 hx
    exact ⟨hs, hk⟩
  · rintro ⟨h1, h2⟩
    exact ⟨x.1, h1, List.mem_map.2 ⟨x.2, h2, rfl⟩⟩
theorem all_key {C L al : Nat} : (AllS C L al).Pairwise KeyLt := by
  unfold AllS
  rw [List.pairwise_flatMap]
  refine ⟨fun n _ => ?_, ?_⟩
  · rw [List.pairwise_flatMap]
    refine ⟨fun s _ => ?_, ?_⟩
    · rw [List.pairwise_map]
      refine List.Pairwise.imp_of_mem ?_ lists_lex
      intro k k' hk hk' hlt
      exact .inr ⟨(lists_mem.1 hk).1.trans (lists_mem.1 hk').1.symm, .inr ⟨rfl, hlt⟩⟩
    · refine List.Pairwise.imp ?_ lists_lex
      intro s s' hlt a ha c hc
      obtain ⟨k, hk, rfl⟩ := List.mem_map.1 ha
      obtain ⟨k', hk', rfl⟩ := List.mem_map.1 hc
      exact .inr ⟨(lists_mem.1 hk).1.trans (lists_mem.1 hk').1.symm, .inl hlt⟩
  · refine List.Pairwise.imp ?_ List.pairwise_lt_range
    intro n n' hlt a ha c hc
    have h1 := (lists_mem.1 (plans_mem.1 ha).2).1
    have h2 := (lists_mem.1 (plans_mem.1 hc).2).1
    exact .inl (by omega)
noncomputable abbrev valP (cs : List Compound) (ls : List (List Stretch)) (al : Int) (x : List Int × List Int) : Option Int := PossS cs ls al x.1 x.2
def ltP (a b : (List Int × List Int) × Int) : Prop := a.2 < b.2
instance : DecidableRel ltP := fun a b => inferInstanceAs (Decidable (a.2 < b.2))
noncomputable def RefT (cs : List Compound) (ls : List (List Stretch)) (al : Int) : Option ((List Int × List Int) × Int) := (AllS cs.length ls.length al.toNat).foldl (pickF (valP cs ls al) ltP) none
theorem pre_all {cs : List Compound} {ls : List (List Stretch)} {al : Int} {x : List Int × List Int} (h : Pre cs ls al x.1 x.2) : x ∈ AllS cs.length ls.length al.toNat := by
  obtain ⟨h1, h2, h3, h4⟩ := h
  refine List.mem_flatMap.2 ⟨x.2.length, by rw [List.mem_range]; omega, plans_mem.2 ⟨lists_mem.2 ⟨h2, fun s hs => ?_⟩, lists_mem.2 ⟨rfl, h4⟩⟩⟩
  exact (scan_le h3).2 s hs
theorem ref_is {cs : List Compound} {ls : List (List Stretch)} {al : Int} : TyresIs cs ls al ((RefT cs ls al).map fun x => (x.1.1, x.1.2, x.2)) := by
  have h1 := pick_spec (val := valP cs ls al) (lt := ltP) (fun a => by unfold ltP; omega) (fun a b c => by unfold ltP; omega) (fun a b c => by unfold ltP; omega) (all_key (C := cs.length) (L := ls.length) (al := al.toNat))
  unfold RefT
  cases hf : (AllS cs.length ls.length al.toNat).foldl (pickF (valP cs ls al) ltP) none with
  | none =>
    rw [hf] at h1
    intro s k
    cases hv : PossS cs ls al s k with
    | none => rfl
    | some v =>
      have := h1 (s, k) (pre_all (poss_pre hv).1)
      simp only [valP] at this
      rw [hv] at this
      cases this
  | some y =>
    obtain ⟨⟨s, k⟩, v⟩ := y
    rw [hf] at h1
    obtain ⟨h2, h3, h4⟩ := h1
    refine ⟨h3, fun y w hw => ?_⟩
    have h5 := h4 y (pre_all (poss_pre hw).1) w hw
    have h6 : ¬w < v := h5.1
    by_cases hlt : v < w
    · exact .inl hlt
    · refine .inr ⟨by omega, ?_⟩
      rcases h5.2 hlt with h | h
      · exact .inl h.symm
      · exact .inr h
theorem tyres_ref {cs : List Compound} {ls : List (List Stretch)} {al : Int} (ha : 1 ≤ al) : TyresS cs ls al = (RefT cs ls al).map fun x => (x.1.1, x.1.2, x.2) := by
  have h1 := tyresS_is (cs := cs) (ls := ls) ha
  have h2 := ref_is (cs := cs) (ls := ls) (al := al)
  cases ht : TyresS cs ls al with
  | none =>
    cases hr : (RefT cs ls al).map fun x => (x.1.1, x.1.2, x.2) with
    | none => rfl
    | some y =>
      obtain ⟨s, k, v⟩ := y
      rw [ht] at h1
      rw [hr] at h2
      have := h2.1
      rw [h1 s k] at this
      cases this
  | some x =>
    obtain ⟨s, k, v⟩ := x
    rw [ht] at h1
    cases hr : (RefT cs ls al).map fun x => (x.1.1, x.1.2, x.2) with
    | none =>
      rw [hr] at h2
      have := h1.1
      rw [h2 s k] at this
      cases this
    | some y =>
      obtain ⟨s', k', v'⟩ := y
      rw [hr] at h2
      obtain ⟨e1, e2⟩ := best_uniq h1 h2
      injection e1 with e3 e4
      rw [e2, e3, e4]
end Go.AM.Car
