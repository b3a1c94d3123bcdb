/- Reads and writes through pointers; slices as rows. -/
import Derived.Test.YthcdhdgpokikfaaAmBase
import Derived.Laws.Rows
import Derived.Laws.CopyRow
namespace Go.AM

theorem getD_lt {C : Array Value} {i : Nat} (h : i < C.size) : C[i]? = some (C.getD i undef) := by simp [Array.getD, h]
theorem cell_block {w : World} {b k : Nat} {C : Array Value} {e : TypeId} {fr : Nat × Nat} (h : w.heap[b]? = some (.cells C e fr)) (hk : k < C.size) : w.cell? ⟨b, k, none⟩ = some (C.getD k undef) := by
  have e : w.cell? ⟨b, k, none⟩ = C[k]? := by simp [World.cell?, h]
  rw [e, getD_lt hk]

/-- What a slice reads as. -/
structure RowsAt (V : View) (sz : Nat) (v : Value) (rows : List (List Cell)) (A : Option Addr) (cap : Nat) : Prop where
  val : v = .slice A rows.length cap
  cap_le : rows.length ≤ cap
  wid : ∀ r ∈ rows, r.length = sz
  spot : ∀ ad, A = some ad → rows ≠ [] → ad.spot = none
  addr : rows ≠ [] → ∃ ad, A = some ad
  cell : ∀ ad, A = some ad → ∀ i j c, rc rows i j = some c → ∃ u, V.w.cell? ⟨ad.block, ad.off + (i * sz + j), none⟩ = some u ∧ CR V c u

theorem mul_lt_of {a b n sz : Nat} (h : a < n) (hb : b < sz) : a * sz + b < n * sz := by
  have : (a + 1) * sz ≤ n * sz := Nat.mul_le_mul_right _ h
  rw [Nat.add_mul] at this
  omega

theorem rc_some {rows : List (List Cell)} {i j : Nat} {c : Cell} (h : rc rows i j = some c) : ∃ r, rows[i]? = some r ∧ r[j]? = some c := by
  unfold rc at h
  exact Option.bind_eq_some_iff.1 h

theorem rc_sub {rows : List (List Cell)} {lo len i j : Nat} {c : Cell} (h : rc ((rows.drop lo).take len) i j = some c) : i < len ∧ rc rows (lo + i) j = some c := by
  obtain ⟨r, h1, h2⟩ := rc_some h
  rw [List.getElem?_take] at h1
  split at h1
  · rename_i hi
    rw [List.getElem?_drop] at h1
    exact ⟨hi, by unfold rc; rw [h1]; exact h2⟩
  · cases h1

theorem rowsOf_sound {V : View} (H : HR V) {c : Cell} {v : Value} (h : CR V c v) {sz : Nat} {rows : List (List Cell)} (hr : rowsOf V.bl sz c = some rows) : ∃ A cap, RowsAt V sz v rows A cap := by
  cases h with
  | ro h =>
    cases h with
    | @sc v hp =>
      unfold rowsOf at hr
      split at hr <;> first | (rename_i he; cases he) | (cases hr)
      injection hr with hr
      subst hr
      exact ⟨none, 0, rfl, Nat.le_refl _, (fun r hr => by simp at hr), (fun ad hA => by cases hA), (fun h => absurd rfl h), (fun ad hA => by cases hA)⟩
    | @e0 A =>
      simp only [rowsOf] at hr
      injection hr with hr
      subst hr
      exact ⟨A, 0, rfl, Nat.le_refl _, fun r hr => by simp at hr, fun ad _ h => absurd rfl h, fun h => absurd rfl h, fun ad hA i j c hc => by simp [rc] at hc⟩
    | fn => simp [rowsOf] at hr
    | @nil _ A =>
      simp only [rowsOf] at hr
      split at hr
      · injection hr with hr
        subst hr
        exact ⟨A, 0, rfl, Nat.le_refl _, fun r hr => by simp at hr, fun ad _ h => absurd rfl h, fun h => absurd rfl h, fun ad hA i j c hc => by simp [rc] at hc⟩
      · cases hr
    | @lst sz' rows' a cap u h1 h2 h3 h4 h5 =>
      simp only [rowsOf] at hr
      split at hr
      · rename_i hs
        injection hr with hr
        subst hr hs
        refine ⟨some a, cap, rfl, h1, h3, fun ad hA _ => by injection hA with hA; subst hA; exact h2, fun _ => ⟨a, rfl⟩, fun ad hA i j c hc => ?_⟩
        injection hA with hA
        subst hA
        exact ⟨_, (h4 i j c hc).2, .ro (h5 i j c hc)⟩
      · cases hr
  | @sl h n lo len A0 cap0 h1 h2 h3 =>
    unfold rowsOf at hr
    simp only at hr
    split at hr
    · rename_i sz' rows' hb
      split at hr
      · rename_i hc
        obtain ⟨hs, hn⟩ := hc
        subst hs
        injection hr with hr
        obtain ⟨_, hok⟩ := h3 _ _ hb
        obtain ⟨hlo, cap, cells, e, fr, h5, h6, h7, hv⟩ := hok hn
        injection hv with hv1 hv2 hv3
        injection hv1 with hv1
        subst hv1 hv3
        have hl : rows.length = len := by rw [← hr]; simp; omega
        obtain ⟨hw, C, e', hh, hsz, hcell⟩ := H.at hb
        rw [hh] at h5
        injection h5 with h5
        injection h5 with h5 h5e h5f
        subst h5
        refine ⟨some ⟨V.mu h, lo * sz', none⟩, cap0, by rw [hl], by omega, fun r hr' => ?_, fun ad hA _ => by injection hA with hA; subst hA; rfl, fun _ => ⟨_, rfl⟩, fun ad hA i j c hc => ?_⟩
        · rw [← hr] at hr'
          exact hw r (List.mem_of_mem_drop (List.mem_of_mem_take hr'))
        · injection hA with hA
          subst hA
          rw [← hr] at hc
          obtain ⟨hi, hc'⟩ := rc_sub hc
          obtain ⟨r, hr1, hr2⟩ := rc_some hc'
          have hlen := hw r (List.mem_of_getElem? hr1)
          have hj := (List.getElem?_eq_some_iff.1 hr2).1
          have hlt := (List.getElem?_eq_some_iff.1 hr1).1
          have hk : (lo + i) * sz' + j < C.size := Nat.lt_of_lt_of_le (mul_lt_of hlt (by omega)) hsz
          refine ⟨_, ?_, hcell _ _ _ hc'⟩
          have he : lo * sz' + (i * sz' + j) = (lo + i) * sz' + j := by rw [Nat.add_mul]; omega
          simp only [he]
          exact cell_block hh hk
      · cases hr
    · cases hr
  | _ => simp [rowsOf] at hr

/-- The length that a cell tells. -/
theorem lenOf_sound {V : View} {c : Cell} {v : Value} (h : CR V c v) {n : Nat} (hn : lenOf V.bl c = some n) :
    (∃ A cap, v = .slice A n cap ∧ n ≤ cap) ∨ (v = .map none ∧ n = 0 ∧ c = .sc v) ∨ (∃ s, v = .string s ∧ n = s.size ∧ c = .sc v) ∨ (∃ hh es, c = .mp hh ∧ V.bl hh = .map es ∧ v = .map (some (V.mu hh)) ∧ n = es.length) := by
  cases h with
  | ro h =>
    cases h with
    | @sc v hp =>
      unfold lenOf at hn
      split at hn <;> first
        | (rename_i he; injection he with he; subst he; injection hn with hn; subst hn; first | exact .inl ⟨none, 0, rfl, Nat.le_refl _⟩ | exact .inr (.inl ⟨rfl, rfl, rfl⟩) | exact .inr (.inr (.inl ⟨_, rfl, rfl, rfl⟩)))
        | (rename_i he; cases he)
        | (cases hn)
    | @e0 A =>
      simp only [lenOf] at hn
      injection hn with hn
      subst hn
      exact .inl ⟨A, 0, rfl, Nat.le_refl _⟩
    | fn => simp [lenOf] at hn
    | @nil _ A =>
      simp only [lenOf] at hn
      injection hn with hn
      subst hn
      exact .inl ⟨A, 0, rfl, Nat.le_refl _⟩
    | @lst sz' rows' a cap u h1 h2 h3 h4 h5 =>
      simp only [lenOf] at hn
      injection hn with hn
      subst hn
      exact .inl ⟨_, _, rfl, h1⟩
  | @sl h n' lo len A cap h1 h2 h3 =>
    simp only [lenOf] at hn
    injection hn with hn
    subst hn
    exact .inl ⟨_, _, rfl, h2⟩
  | @mp h b h1 h3 =>
    unfold lenOf at hn
    simp only at hn
    split at hn
    · rename_i es hb
      injection hn with hn
      have := h3 _ hb
      subst this
      exact .inr (.inr (.inr ⟨h, es, rfl, hb, rfl, hn.symm⟩))
    · cases hn
  | _ => simp [lenOf] at hn

/-- Cells that are read through a pointer. -/
theorem rdPtr_sound {V : View} (H : HR V) {p : Cell} {v : Value} (h : CR V p v) {n : Nat} {cs : List Cell} (hr : rdPtr V.bl n p = some cs) :
    ∃ ad, v = .pointer (some ad) ∧ ad.spot = none ∧ cs.length = n ∧ ∀ i c, cs[i]? = some c → ∃ u, V.w.cell? ⟨ad.block, ad.off + i, none⟩ = some u ∧ CR V c u := by
  cases h with
  | @bp h off b h1 h3 =>
    unfold rdPtr at hr
    simp only at hr
    split at hr
    · rename_i cs0 hb
      split at hr
      · rename_i hle
        injection hr with hr
        have hv := h3 _ hb
        subst hv
        obtain ⟨C, e, hh, hl, hc⟩ := H.at hb
        refine ⟨_, rfl, rfl, by rw [← hr]; simp; omega, fun i c hi => ?_⟩
        rw [← hr, List.getElem?_take] at hi
        split at hi
        · rename_i hin
          rw [List.getElem?_drop] at hi
          exact ⟨_, cell_block hh (show off + i < C.size by omega), hc _ _ hi⟩
        · cases hi
      · cases hr
    · cases hr
  | @ep a sz i off A n' cap h1 h2 =>
    simp only [rdPtr] at hr
    split at hr
    · rename_i rows hrow
      split at hr
      · rename_i r hri
        split at hr
        · rename_i hle
          injection hr with hr
          obtain ⟨A', cap', R⟩ := rowsOf_sound H h1 hrow
          have hA := R.val
          injection hA with hA _ _
          subst hA
          refine ⟨_, rfl, rfl, by rw [← hr]; simp; omega, fun k c hk => ?_⟩
          rw [← hr, List.getElem?_take] at hk
          split at hk
          · rename_i hin
            rw [List.getElem?_drop] at hk
            obtain ⟨u, hu, hcu⟩ := R.cell A rfl i (off + k) c (by unfold rc; rw [hri]; exact hk)
            refine ⟨u, ?_, hcu⟩
            have he : A.off + (i * sz + off) + k = A.off + (i * sz + (off + k)) := by omega
            simp only [he]
            exact hu
          · cases hk
        · cases hr
      · cases hr
    · cases hr
  | ro h => cases h <;> simp [rdPtr] at hr
  | _ => simp [rdPtr] at hr

theorem add_spot {a : Addr} (h : a.spot = none) (j : Nat) : a.add j = ⟨a.block, a.off + j, none⟩ := by
  unfold Addr.add
  split
  · rename_i hj; subst hj; cases a; simp_all
  · rfl

theorem info_of_size {P : Program} {t : TypeId} {s : Nat} (h : szOf P t = some s) : ∃ i, P.info? t = some i ∧ i.size = s := by
  simpa [szOf] using h
theorem run_size {P : Program} {t : TypeId} {s : Nat} (h : szOf P t = some s) (w : World) : (sizeOf t).run P w = .ok s w := by
  obtain ⟨i, hi, rfl⟩ := info_of_size h
  simp [sizeOf, typeInfo, hi]
theorem run_isAgg {P : Program} {t : TypeId} {b : Bool} (h : aggB P t = some b) (w : World) : (isAgg t).run P w = .ok b w := by
  unfold aggB at h
  cases hu : P.underlying t with
  | none => rw [hu] at h; cases h
  | some d => cases d <;> rw [hu] at h <;> injection h with h <;> subst h <;> simp [isAgg, run_underlying hu]

/-- Values of cells that are read. -/
theorem vals_of {V : View} {ad : Addr} {cs : List Cell} (h : ∀ (i : Nat) (c : Cell), cs[i]? = some c → ∃ u, V.w.cell? ⟨ad.block, ad.off + i, none⟩ = some u ∧ CR V c u) :
    ∃ us : List Value, us.length = cs.length ∧ (∀ j u, us[j]? = some u → V.w.cell? ⟨ad.block, ad.off + j, none⟩ = some u) ∧ CSR V cs us.toArray := by
  let f : Nat → Value := fun i => (V.w.cell? ⟨ad.block, ad.off + i, none⟩).getD undef
  refine ⟨(List.range cs.length).map f, by simp, fun j u hu => ?_, by simp, fun i c hc => ?_⟩
  · obtain ⟨hj, rfl⟩ := List.getElem?_eq_some_iff.1 hu
    have hj' : j < cs.length := by simpa using hj
    obtain ⟨u, h1, _⟩ := h j _ (List.getElem?_eq_getElem hj')
    simp [f, h1]
  · have hi := (List.getElem?_eq_some_iff.1 hc).1
    obtain ⟨u, h1, h2⟩ := h i c hc
    have : ((List.range cs.length).map f).toArray.getD i undef = u := by simp [Array.getD, hi, f, h1]
    rw [this]; exact h2

theorem run_loadVarA {P : Program} {V : View} (H : HR V) {p : Cell} {v : Value} (h : CR V p v) {t : TypeId} {s : Nat} {cs : List Cell} (ha : aggB P t = some true) (hs : szOf P t = some s) (hr : rdPtr V.bl s p = some cs) :
    ∃ ad us, v = .pointer (some ad) ∧ (loadVar t ad).run P V.w = .ok (.agg us) V.w ∧ CSR V cs us := by
  obtain ⟨ad, rfl, hsp, hl, hc⟩ := rdPtr_sound H h hr
  obtain ⟨us, h1, h2, h3⟩ := vals_of hc
  refine ⟨ad, us.toArray, rfl, ?_, h3⟩
  have := run_loadCells_list (P := P) V.w ad us (fun j u hj => by rw [add_spot hsp]; exact h2 j u hj)
  rw [h1, hl] at this
  simp [loadVar, run_isAgg ha, run_size hs, this]
theorem run_loadVar1 {P : Program} {V : View} (H : HR V) {p : Cell} {v : Value} (h : CR V p v) {t : TypeId} {c : Cell} (ha : aggB P t = some false) (hr : rdPtr V.bl 1 p = some [c]) :
    ∃ ad u, v = .pointer (some ad) ∧ (loadVar t ad).run P V.w = .ok u V.w ∧ CR V c u := by
  obtain ⟨ad, rfl, hsp, hl, hc⟩ := rdPtr_sound H h hr
  obtain ⟨u, h1, h2⟩ := hc 0 c rfl
  refine ⟨ad, u, rfl, ?_, h2⟩
  have he : (⟨ad.block, ad.off + 0, none⟩ : Addr) = ad := by cases ad; simp_all
  rw [he] at h1
  simp [loadVar, run_isAgg ha, load, Sem.run, h1]

end Go.AM
