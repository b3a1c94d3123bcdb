/- The start of a law: what is read off the arguments. -/
import Derived.Test.YthcdhdgpokikfaaAmRow1
namespace Go.AM

/-- Where a struct's fields lie one behind the other: where the last one ends. -/
def tiled (P : Program) : Nat → List Field → Option Nat
  | off, [] => some off
  | off, f :: r => if f.offset = off then tiled P (off + P.cellsOf f.type) r else none
/-- Types of numbers, Bools, strings, slices and structs of such. -/
def okTy (P : Program) : Nat → TypeId → Bool
  | 0, _ => false
  | m + 1, t => match P.underlying t with
    | some .bool | some (.int _) | some .string => decide (P.cellsOf t = 1)
    | some (.slice e) => decide (P.cellsOf t = 1) && decide (0 < P.cellsOf e) && okTy P m e
    | some (.struct fs) => decide (tiled P 0 fs.toList = some (P.cellsOf t)) && fs.toList.all (fun f => okTy P m f.type)
    | _ => false
/-- What the cells of a type look like. -/
def Sh (P : Program) : Nat → TypeId → List Cell → Prop
  | 0, _, _ => False
  | m + 1, t, cs => match P.underlying t with
    | some .bool => ∃ b, cs = [.sc (.bool b)]
    | some (.int k) => ∃ i, cs = [.sc (.int k i)] ∧ k.min ≤ i ∧ i ≤ k.max
    | some .string => ∃ s, cs = [.sc (.string s)]
    | some (.slice e) => ∃ rows, cs = [.lst (P.cellsOf e) rows] ∧ rows.length ≤ maxLen ∧ ∀ r ∈ rows, Sh P m e r
    | some (.struct fs) => cs.length = P.cellsOf t ∧ ∀ f ∈ fs.toList, Sh P m f.type ((cs.drop f.offset).take (P.cellsOf f.type))
    | _ => False

/-- Cells for a list of values. -/
def Opens (W : World) (cs : List Cell) (vs : List Value) : Prop := cs.length = vs.length ∧ ∀ (i : Nat) c, cs[i]? = some c → RO W (own (VZ W)) c (vs.getD i undef)

theorem Opens.append {W : World} {a b : List Cell} {u v : List Value} (h : Opens W a u) (g : Opens W b v) : Opens W (a ++ b) (u ++ v) := by
  refine ⟨by simp [h.1, g.1], fun i c hc => ?_⟩
  by_cases hi : i < a.length
  · rw [List.getElem?_append_left hi] at hc
    have : (u ++ v).getD i undef = u.getD i undef := by simp only [List.getD]; rw [List.getElem?_append_left (by rw [← h.1]; exact hi)]
    rw [this]; exact h.2 i c hc
  · rw [List.getElem?_append_right (by omega)] at hc
    have : (u ++ v).getD i undef = v.getD (i - a.length) undef := by
      simp only [List.getD]; rw [List.getElem?_append_right (by rw [← h.1]; omega), ← h.1]
    rw [this]; exact g.2 _ c hc

/-- The cells of fields that tile. -/
theorem tile {P : Program} {W : World} {m : Nat} {vs : List Value} : ∀ {l : List Field} {off n : Nat}, tiled P off l = some n → n ≤ vs.length →
    (∀ f ∈ l, ∃ cs, Opens W cs ((vs.drop f.offset).take (P.cellsOf f.type)) ∧ Sh P m f.type cs) →
    off ≤ n ∧ ∃ cs, Opens W cs ((vs.drop off).take (n - off)) ∧ ∀ f ∈ l, off ≤ f.offset ∧ Sh P m f.type ((cs.drop (f.offset - off)).take (P.cellsOf f.type)) := by
  intro l
  induction l with
  | nil =>
    intro off n ht hn _
    simp only [tiled] at ht
    injection ht with ht
    subst ht
    exact ⟨Nat.le_refl _, [], ⟨by simp, fun i c h => by simp at h⟩, fun f hf => by simp at hf⟩
  | cons f l ih =>
    intro off n ht hn h
    simp only [tiled] at ht
    split at ht
    · rename_i hoff
      obtain ⟨cs1, h1, h2⟩ := h f (by simp)
      obtain ⟨hle, cs2, h3, h4⟩ := ih ht hn (fun g hg => h g (by simp [hg]))
      rw [hoff] at h1
      have hl1 : cs1.length = P.cellsOf f.type := by have := h1.1; simp at this; omega
      refine ⟨by omega, cs1 ++ cs2, ?_, fun g hg => ?_⟩
      · have := h1.append h3
        have e : (vs.drop off).take (P.cellsOf f.type) ++ (vs.drop (off + P.cellsOf f.type)).take (n - (off + P.cellsOf f.type)) = (vs.drop off).take (n - off) := by
          rw [← List.drop_drop, show n - off = P.cellsOf f.type + (n - (off + P.cellsOf f.type)) by omega, List.take_add]
        rw [e] at this; exact this
      · rcases List.mem_cons.1 hg with rfl | hg
        · refine ⟨by omega, ?_⟩
          rw [hoff, Nat.sub_self, List.drop_zero, List.take_append_of_le_length (by omega), List.take_of_length_le (by omega)]
          exact h2
        · obtain ⟨h5, h6⟩ := h4 g hg
          refine ⟨by omega, ?_⟩
          rw [List.drop_append, List.drop_of_length_le (by omega), List.nil_append, hl1, Nat.sub_sub]
          exact h6
    · cases ht


section
variable {H : Type} {enc : TypeId × Value → H} {P : Program} {W : World}
theorem opens_one {c : Cell} {v : Value} (h : RO W (own (VZ W)) c v) : Opens W [c] [v] := by
  refine ⟨rfl, fun i c' hc => ?_⟩
  cases i with
  | zero => simp at hc; subst hc; exact h
  | succ i => simp at hc

theorem add_cell {a : Addr} {p : Nat} {u : Value} (h : W.cell? (a.add p) = some u) : W.cell? ⟨a.block, a.off + p, none⟩ = some u ∧ (p = 0 → a.spot = none) := by
  unfold Addr.add at h
  split at h
  · rename_i hp
    subst hp
    have hs : a.spot = none := by
      unfold World.cell? at h
      split at h
      · split at h
        · cases h
        · rename_i hs; simpa using hs
      · cases h
    refine ⟨?_, fun _ => hs⟩
    have : (⟨a.block, a.off + 0, none⟩ : Addr) = a := by cases a; simp_all
    rw [this]; exact h
  · rename_i hp
    exact ⟨h, fun e => absurd e hp⟩
theorem build_list {α : Type} {p : Nat → α → Prop} : ∀ {n : Nat}, (∀ i, i < n → ∃ r, p i r) → ∃ rows : List α, rows.length = n ∧ ∀ i r, rows[i]? = some r → p i r := by
  intro n
  induction n with
  | zero => exact fun _ => ⟨[], rfl, fun i r h => by simp at h⟩
  | succ n ih =>
    intro h
    obtain ⟨rows, h1, h2⟩ := ih (fun i hi => h i (by omega))
    obtain ⟨r, hr⟩ := h n (by omega)
    refine ⟨rows ++ [r], by simp [h1], fun i x hx => ?_⟩
    by_cases hi : i < n
    · rw [List.getElem?_append_left (by omega)] at hx; exact h2 i x hx
    · have hl := (List.getElem?_eq_some_iff.1 hx).1
      simp at hl
      have : i = n := by omega
      subst this
      rw [List.getElem?_append_right (by omega), h1] at hx
      simp at hx
      subst hx; exact hr
theorem opens_of : ∀ (m fuel : Nat) (t : TypeId) (vs : List Value) (x : DataW H × List MemPlace), okTy P m t = true → DataW.trod enc P W 0 (fun _ => true) true fuel t vs = some x → ∃ cs, Opens W cs vs ∧ Sh P m t cs := by
  intro m
  induction m with
  | zero => intro fuel t vs x h; simp [okTy] at h
  | succ m ih =>
    intro fuel t vs x hok h
    cases fuel with
    | zero => simp [DataW.trod] at h
    | succ fuel =>
      unfold okTy at hok
      unfold Sh
      split at hok
      · rename_i hu
        unfold DataW.trod at h
        simp only [hu] at h
        split at h <;> first | (rename_i h1; cases h1; done) | (cases h; done) | skip
        rename_i b h1
        exact ⟨_, opens_one (.sc rfl), b, rfl⟩
      · rename_i k hu
        unfold DataW.trod at h
        simp only [hu] at h
        split at h <;> first | (rename_i h1; cases h1; done) | (cases h; done) | skip
        rename_i k0 k' n h1
        injection h1 with h1; injection h1 with h1; subst h1
        split at h
        · rename_i hw
          obtain ⟨rfl, hw⟩ := hw
          simp only [Lit.wf, Bool.and_eq_true, decide_eq_true_eq] at hw
          exact ⟨_, opens_one (.sc rfl), n, rfl, hw⟩
        · cases h
      · rename_i hu
        unfold DataW.trod at h
        simp only [hu] at h
        split at h <;> first | (rename_i h1; cases h1; done) | (cases h; done) | skip
        rename_i s h1
        exact ⟨_, opens_one (.sc rfl), s, rfl⟩
      · rename_i e hu
        simp only [Bool.and_eq_true, decide_eq_true_eq] at hok
        obtain ⟨⟨_, hpos⟩, hoke⟩ := hok
        unfold DataW.trod at h
        simp only [hu] at h
        split at h <;> first | (rename_i h1; cases h1; done) | (cases h; done) | skip
        · exact ⟨_, opens_one (.nil (sz := P.cellsOf e)), [], rfl, by simp, fun r hr => by simp at hr⟩
        · rename_i e0 a len cap h1
          injection h1 with h1; injection h1 with h1; subst h1
          split at h
          · rename_i hc
            obtain ⟨elems, hel, h⟩ := Option.bind_eq_some_iff.1 h
            obtain ⟨rest, hrest, _⟩ := Option.map_eq_some_iff.1 h
            simp only [if_true] at hrest
            obtain ⟨g1, g2⟩ := mapM_get hel
            obtain ⟨k1, k2⟩ := mapM_get hrest
            have one : ∀ i y, ((W.cells? 0 (a.add (i * P.cellsOf e)) (P.cellsOf e)).bind (DataW.trod enc P W 0 (fun _ => true) true fuel e)) = some y →
                ∃ row : List Cell, row.length = P.cellsOf e ∧ (∀ j c, row[j]? = some c → ∃ u, W.cell? ⟨a.block, a.off + (i * P.cellsOf e + j), none⟩ = some u ∧ RO W (own (VZ W)) c u) ∧ Sh P m e row ∧ (i = 0 → a.spot = none) := by
              intro i y hy
              obtain ⟨vsi, hv, ht⟩ := Option.bind_eq_some_iff.1 hy
              obtain ⟨cs, ho, hs⟩ := ih fuel e vsi y hoke ht
              unfold World.cells? at hv
              rw [if_pos (Nat.zero_le _)] at hv
              obtain ⟨q1, q2⟩ := mapM_get hv
              have hcs : cs.length = P.cellsOf e := by rw [ho.1, q1]; simp
              refine ⟨cs, hcs, fun j c hc' => ?_, hs, fun hi => ?_⟩
              · have hj : j < P.cellsOf e := by rw [← hcs]; exact (List.getElem?_eq_some_iff.1 hc').1
                obtain ⟨u, hu1, hu2⟩ := q2 j j (by simp [hj])
                have hro := ho.2 j c hc'
                have : vsi.getD j undef = u := by simp [List.getD, hu2]
                rw [this] at hro
                refine ⟨u, ?_, hro⟩
                have h1 := (add_cell hu1).1
                have e1 : (a.add (i * P.cellsOf e)).block = a.block := by unfold Addr.add; split <;> rfl
                have e2 : (a.add (i * P.cellsOf e)).off = a.off + i * P.cellsOf e := by
                  unfold Addr.add
                  split
                  · omega
                  · rfl
                rw [e1, e2, Nat.add_assoc] at h1
                exact h1
              · obtain ⟨u, hu1, _⟩ := q2 0 0 (List.getElem?_range hpos)
                have := (add_cell hu1).2 rfl
                subst hi
                simpa [Addr.add] using this
            obtain ⟨rows, r1, r2⟩ := build_list (n := len) (p := fun i row => row.length = P.cellsOf e ∧ (∀ j c, row[j]? = some c → ∃ u, W.cell? ⟨a.block, a.off + (i * P.cellsOf e + j), none⟩ = some u ∧ RO W (own (VZ W)) c u) ∧ Sh P m e row) (fun i hi => by
              obtain ⟨y, hy, _⟩ := g2 i i (by simp [hi])
              obtain ⟨row, q1, q2, q3, _⟩ := one i y hy
              exact ⟨row, q1, q2, q3⟩)
            have hsh : ∀ r ∈ rows, Sh P m e r := fun r hr => by
              obtain ⟨i, hi⟩ := List.getElem?_of_mem hr
              exact (r2 i r hi).2.2
            have hml : rows.length ≤ maxLen := by omega
            by_cases hcap : cap = 0
            · have hlen : len = 0 := by omega
              subst hcap hlen
              have : rows = [] := List.length_eq_zero_iff.1 r1
              subst this
              exact ⟨_, opens_one (.nil (sz := P.cellsOf e)), [], rfl, by simp, fun r hr => by simp at hr⟩
            · have hspot : a.spot = none := by
                by_cases hl : len = 0
                · obtain ⟨y, hy, _⟩ := k2 0 0 (List.getElem?_range (by omega))
                  rw [hl] at hy
                  obtain ⟨_, _, _, _, q⟩ := one 0 y hy
                  exact q rfl
                · obtain ⟨y, hy, _⟩ := g2 0 0 (List.getElem?_range (by omega))
                  obtain ⟨_, _, _, _, q⟩ := one 0 y hy
                  exact q rfl
              refine ⟨_, opens_one (c := .lst (P.cellsOf e) rows) ?_, rows, rfl, hml, hsh⟩
              have hcell : ∀ i j c, rc rows i j = some c → ∃ u, W.cell? ⟨a.block, a.off + (i * P.cellsOf e + j), none⟩ = some u ∧ RO W (own (VZ W)) c u := by
                intro i j c hc'
                obtain ⟨r, q1, q2⟩ := rc_some hc'
                exact (r2 i r q1).2.1 j c q2
              have := @RO.lst W (own (VZ W)) (P.cellsOf e) rows a cap (fun i j => (W.cell? ⟨a.block, a.off + (i * P.cellsOf e + j), none⟩).getD undef) (by omega) hspot (fun r hr => by
                obtain ⟨i, hi⟩ := List.getElem?_of_mem hr
                exact (r2 i r hi).1) (fun i j c hc' => ?_) (fun i j c hc' => ?_)
              · rw [r1] at this; exact this
              · obtain ⟨u, hu1, _⟩ := hcell i j c hc'
                exact ⟨own_VZ W _, by simp only [hu1, Option.getD_some]⟩
              · obtain ⟨u, hu1, hu2⟩ := hcell i j c hc'
                simp only [hu1, Option.getD_some]; exact hu2
          · cases h
      · rename_i fs hu
        simp only [Bool.and_eq_true, decide_eq_true_eq, List.all_eq_true] at hok
        obtain ⟨ht, hall⟩ := hok
        unfold DataW.trod at h
        simp only [hu] at h
        split at h
        · rename_i hlen
          obtain ⟨xs, hxs, _⟩ := Option.map_eq_some_iff.1 h
          obtain ⟨g1, g2⟩ := mapM_get hxs
          obtain ⟨_, cs, h1, h2⟩ := tile (m := m) (W := W) (vs := vs) ht (by omega) (fun f hf => by
            obtain ⟨i, hi⟩ := List.getElem?_of_mem hf
            obtain ⟨y, hy, _⟩ := g2 i f hi
            exact ih fuel f.type _ y (hall f hf) hy)
          rw [List.drop_zero, Nat.sub_zero, List.take_of_length_le (by omega)] at h1
          exact ⟨cs, h1, by rw [h1.1]; exact hlen, fun f hf => by simpa using (h2 f hf).2⟩
        · cases h
      · cases hok
end
end Go.AM
