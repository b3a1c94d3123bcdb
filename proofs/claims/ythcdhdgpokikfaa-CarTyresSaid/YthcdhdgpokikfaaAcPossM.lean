/- Plans of tyres: plain mathematics. -/
import Derived.Test.YthcdhdgpokikfaaAcTask
namespace Go.AM.Car

/-- The loss of the loops for which a set is used; none, if it does not last. -/
def usedS (c : Compound) (set : Int) : List (List Stretch) → List Int → Int → Int → Option Int
  | l :: ls, s :: ss, sum, wear => if s = set then (if (drivenS c l 0 wear true).2.2 then usedS c set ls ss (sum + (drivenS c l 0 wear true).1) (drivenS c l 0 wear true).2.1 else none) else usedS c set ls ss sum wear
  | _, _, sum, _ => some sum
/-- The greatest set and one. -/
def scan : List Int → Int → Option Int
  | [], n => some n
  | s :: ss, n => if 0 ≤ s ∧ s ≤ n then scan ss (max n (s + 1)) else none
def sumO : Nat → (Nat → Option Int) → Option Int
  | 0, _ => some 0
  | n + 1, f => match sumO n f, f n with
    | some a, some b => some (a + b)
    | _, _ => none
def chain (kc : Nat → Compound) : List (List Stretch) → List Int → (Nat → Int) → Option Int
  | l :: ls, s :: ss, w => if (drivenS (kc s.toNat) l 0 (w s.toNat) true).2.2 then (chain kc ls ss (fun t => if t = s.toNat then (drivenS (kc s.toNat) l 0 (w s.toNat) true).2.1 else w t)).map ((drivenS (kc s.toNat) l 0 (w s.toNat) true).1 + ·) else none
  | _, _, _ => some 0
def compAt (cs : List Compound) (comps : List Int) (t : Nat) : Compound := ((comps[t]?).bind fun k => cs[k.toNat]?).getD ⟨[], [], [], 0⟩
def Pre (cs : List Compound) (ls : List (List Stretch)) (al : Int) (sets comps : List Int) : Prop := comps.length ≤ al ∧ sets.length = ls.length ∧ scan sets 0 = some (comps.length : Int) ∧ ∀ k ∈ comps, 0 ≤ k ∧ k < cs.length
noncomputable instance (cs : List Compound) (ls : List (List Stretch)) (al : Int) (sets comps : List Int) : Decidable (Pre cs ls al sets comps) := Classical.propDecidable _
/-- What a plan loses; none, if it is not possible. -/
noncomputable def PossS (cs : List Compound) (ls : List (List Stretch)) (al : Int) (sets comps : List Int) : Option Int :=
  if Pre cs ls al sets comps then sumO comps.length (fun t => usedS (compAt cs comps t) t ls sets 0 0) else none

theorem sumO_none {f : Nat → Option Int} {i : Nat} (hf : f i = none) : ∀ {m : Nat}, i < m → sumO m f = none := by
  intro m
  induction m with
  | zero => intro h; omega
  | succ m ih =>
    intro h
    rw [sumO]
    by_cases he : i = m
    · subst he
      rw [hf]
      cases sumO i f <;> rfl
    · rw [ih (by omega)]
theorem sumO_congr {f g : Nat → Option Int} : ∀ {m : Nat}, (∀ t, t < m → f t = g t) → sumO m f = sumO m g := by
  intro m
  induction m with
  | zero => intro _; rfl
  | succ m ih =>
    intro h
    rw [sumO, sumO, ih (fun t ht => h t (by omega)), h m (by omega)]
theorem sumO_shift {f g : Nat → Option Int} {i : Nat} {d : Int} (hi : f i = (g i).map (d + ·)) (hf : ∀ t, t ≠ i → f t = g t) : ∀ {m : Nat}, i < m → sumO m f = (sumO m g).map (d + ·) := by
  intro m
  induction m with
  | zero => intro h; omega
  | succ m ih =>
    intro h
    rw [sumO, sumO]
    by_cases he : i = m
    · subst he
      rw [hi, sumO_congr (m := i) (fun t ht => hf t (by omega))]
      cases sumO i g with
      | none => rfl
      | some a => cases g i with
        | none => rfl
        | some b => simp; omega
    · rw [ih (by omega), hf m (fun e => he e.symm)]
      cases sumO m g with
      | none => rfl
      | some a => cases g m with
        | none => rfl
        | some b => simp; omega
theorem usedS_sum {c : Compound} {set : Int} : ∀ {ls : List (List Stretch)} {ss : List Int} {x w : Int}, usedS c set ls ss x w = (usedS c set ls ss 0 w).map (x + ·) := by
  intro ls
  induction ls with
  | nil => intro ss x w; simp [usedS]
  | cons l ls ih =>
    intro ss x w
    cases ss with
    | nil => simp [usedS]
    | cons s ss =>
      rw [usedS, usedS]
      split
      · split
        · rw [ih, ih (x := 0 + _), Option.map_map]
          congr 1
          funext y
          simp only [Function.comp]
          omega
        · rfl
      · rw [ih]
theorem sumO_zero : ∀ {m : Nat}, sumO m (fun _ => some 0) = some 0 := by
  intro m
  induction m with
  | zero => rfl
  | succ m ih => rw [sumO, ih]; rfl
/-- Loop by loop, or set by set. -/
theorem chain_sum {kc : Nat → Compound} {m : Nat} : ∀ {ls : List (List Stretch)} {ss : List Int} {w : Nat → Int}, (∀ s ∈ ss, 0 ≤ s ∧ s < m) → chain kc ls ss w = sumO m (fun t => usedS (kc t) t ls ss 0 (w t)) := by
  intro ls
  induction ls with
  | nil =>
    intro ss w _
    simp only [chain, usedS]
    exact sumO_zero.symm
  | cons l ls ih =>
    intro ss w h
    cases ss with
    | nil =>
      simp only [chain, usedS]
      exact sumO_zero.symm
    | cons s ss =>
      obtain ⟨h1, h2⟩ := h s (by simp)
      obtain ⟨k, rfl⟩ := Int.eq_ofNat_of_zero_le h1
      have hk : k < m := by omega
      rw [chain]
      simp only [Int.toNat_natCast]
      split
      · rename_i hlast
        rw [ih (fun s hs => h s (by simp [hs]))]
        refine (sumO_shift (i := k) (d := (drivenS (kc k) l 0 (w k) true).1) ?_ (fun t ht => ?_) hk).symm
        · rw [usedS, if_pos rfl, if_pos hlast, usedS_sum]
          simp
        · rw [usedS, if_neg (by omega)]
          simp [ht]
      · rename_i hlast
        refine (sumO_none (i := k) ?_ hk).symm
        rw [usedS, if_pos rfl, if_neg hlast]
theorem scan_le : ∀ {ss : List Int} {n r : Int}, scan ss n = some r → n ≤ r ∧ ∀ s ∈ ss, 0 ≤ s ∧ s < r := by
  intro ss
  induction ss with
  | nil => intro n r h; simp [scan] at h; exact ⟨by omega, fun s hs => by simp at hs⟩
  | cons s ss ih =>
    intro n r h
    rw [scan] at h
    split at h
    · rename_i hs
      obtain ⟨h1, h2⟩ := ih h
      exact ⟨by omega, fun t ht => by
        rcases List.mem_cons.1 ht with rfl | ht
        · omega
        · exact h2 t ht⟩
    · cases h
theorem PossS_chain {cs : List Compound} {ls : List (List Stretch)} {al : Int} {sets comps : List Int} (h : Pre cs ls al sets comps) : PossS cs ls al sets comps = chain (compAt cs comps) ls sets (fun _ => 0) := by
  unfold PossS
  rw [if_pos h, chain_sum (m := comps.length) (fun s hs => (scan_le h.2.2.1).2 s hs)]
end Go.AM.Car
