/- New blocks; build; append. -/
import Derived.Test.YthcdhdgpokikfaaAmOps2
namespace Go.AM

theorem new_box {V : View} (H : HR V) {w' : World} {us : Array Value} {e : TypeId} (hw : w'.heap = V.w.heap.push (.cells us e)) {nw : Nat} (hn : V.bl nw = .none) {cs : List Cell} (hcs : CSR V cs us) (hio : Wio V.w w' := by exact ⟨rfl, rfl, rfl⟩) :
    let V' : View := ⟨w', upd V.mu nw V.w.heap.size, upd V.bl nw (.box cs), V.hid⟩
    Ext V V' ∧ HR V' ∧ VR V' (.one (.bp nw 0)) (.pointer (some ⟨V.w.heap.size, 0, none⟩)) := by
  intro V'
  refine ⟨View.alloc H hw hn _ hio, HR.alloc H hw hn (fun V' hV' E ho => ?_) hio, .one (.bp (by simp only [V', upd_same]; simp) (fun cs' _ => by simp only [V', upd_same]))⟩
  exact ⟨us, e, ho, by have := hcs.len; omega, fun i c hc => (hcs.get i c hc).mono E⟩

theorem new_arr {V : View} (H : HR V) {w' : World} {us : Array Value} {e : TypeId} (hw : w'.heap = V.w.heap.push (.cells us e)) {nw : Nat} (hn : V.bl nw = .none) {sz : Nat} {rows : List (List Cell)}
    (hwid : ∀ r ∈ rows, r.length = sz) {cap : Nat} (hcap : rows.length ≤ cap) (hsz : cap * sz ≤ us.size)
    (hc : ∀ i j c, rc rows i j = some c → CR V c (us.getD (i * sz + j) undef)) (hio : Wio V.w w' := by exact ⟨rfl, rfl, rfl⟩) :
    let V' : View := ⟨w', upd V.mu nw V.w.heap.size, upd V.bl nw (.arr sz rows), V.hid⟩
    Ext V V' ∧ HR V' ∧ VR V' (.one (.sl nw rows.length 0 rows.length)) (.slice (some ⟨V.w.heap.size, 0, none⟩) rows.length cap) := by
  intro V'
  have hle : rows.length * sz ≤ cap * sz := Nat.mul_le_mul_right _ hcap
  refine ⟨View.alloc H hw hn _ hio, HR.alloc H hw hn (fun V' hV' E ho => ?_) hio, .one (.sl (by simp only [V', upd_same]; simp) hcap (fun sz' rows' hb => ?_))⟩
  · exact ⟨hwid, us, e, ho, by omega, fun i j c hcc => (hc i j c hcc).mono E⟩
  · simp only [V', upd_same] at hb
    injection hb with hb1 hb2
    subst hb1 hb2
    refine ⟨Nat.le_refl _, fun _ => ⟨by omega, cap, us, e, (0, 0), ?_, hcap, by simpa using hsz, ?_⟩⟩
    · simp only [V', upd_same]; exact push_at hw
    · simp only [V', upd_same, Nat.zero_mul]

/-! ### fill -/
theorem foldl_put (us : List Value) : ∀ (s o : Nat) (C : Array Value), o + s + us.length ≤ C.size →
    (us.zipIdx s).foldl (fun cs (x : Value × Nat) => cs.setIfInBounds (o + x.2) x.1) C = putVals C (o + s) us := by
  induction us with
  | nil => intro s o C h; simp [putVals]
  | cons u us ih =>
    intro s o C h
    simp only [List.zipIdx_cons, List.foldl_cons]
    simp only [List.length_cons] at h
    rw [ih (s + 1) o _ (by simp; omega)]
    have h1 : o + s < C.size := by omega
    apply Array.ext
    · rw [putVals_size (by simp; omega), putVals_size (by simp; omega)]; simp
    · intro k hk1 hk2
      have hk : k < C.size := by rw [putVals_size (by simp; omega)] at hk2; exact hk2
      have e1 := putVals_getD (C := C.setIfInBounds (o + s) u) (o := o + (s + 1)) (us := us) (by simp; omega) k
      have e2 := putVals_getD (C := C) (o := o + s) (us := u :: us) (by simp; omega) k
      have g : ∀ (A : Array Value) (h : k < A.size), A.getD k undef = A[k] := fun A h => by simp [Array.getD, h]
      rw [g _ hk1] at e1
      rw [g _ hk2] at e2
      rw [e1, e2]
      have e3 : (C.setIfInBounds (o + s) u).getD k undef = if k = o + s then u else C.getD k undef := by
        have hks : k < (C.setIfInBounds (o + s) u).size := by simpa using hk
        rw [g _ hks, g _ hk, Array.getElem_setIfInBounds]
        split
        · rename_i he; rw [if_pos he.symm]
        · rename_i he; rw [if_neg (fun x => he x.symm)]
      rw [e3]
      simp only [List.length_cons]
      by_cases ha : k < o + s
      · rw [if_pos (by omega), if_pos ha, if_neg (by omega)]
      · by_cases hb : k = o + s
        · subst hb
          rw [if_pos (by omega), if_pos rfl, if_neg ha, if_pos (by omega)]
          simp
        · rw [if_neg ha]
          by_cases hc : k < o + s + (us.length + 1)
          · rw [if_neg (by omega), if_pos (by omega), if_pos (by omega)]
            have : k - (o + s) = (k - (o + (s + 1))) + 1 := by omega
            rw [this]
            simp [List.getD]
          · rw [if_neg (by omega), if_neg (by omega), if_neg hb, if_neg (by omega)]

theorem csr_put {V : View} {cs v : List Cell} {C us : Array Value} {o : Nat} (hcs : CSR V cs C) (hv : CSR V v us) (ho : o + v.length ≤ cs.length) : CSR V (putCells cs o v) (putVals C o us.toList) := by
  have hul : us.toList.length = v.length := by simpa using hv.len.symm
  have hl := hcs.len
  refine ⟨by rw [putCells_length ho, putVals_size (by omega), hl], fun i c hi => ?_⟩
  rw [putVals_getD (by omega)]
  rw [putCells_get ho] at hi
  split at hi
  · rename_i h; rw [if_pos h]; exact hcs.get i c hi
  · rename_i h
    rw [if_neg h]
    split at hi
    · rename_i h2; rw [if_pos (by omega)]; exact csr_list hv hi
    · rename_i h2; rw [if_neg (by omega)]; exact hcs.get i c hi

/-- Parts, by their places. -/
def PartsR (V : View) : List (Nat × List Cell) → List (Nat × Value) → Prop
  | [], [] => True
  | (i, cs) :: r, (j, v) :: r' => i = j ∧ CSR V cs v.cells ∧ PartsR V r r'
  | _, _ => False

theorem fill_sound {V : View} {place : Nat → Option (Nat × Nat)} : ∀ {ps : List (Nat × List Cell)} {vs : List (Nat × Value)} {cs out : List Cell} {C : Array Value}, PartsR V ps vs → CSR V cs C → fillA place cs ps = some out →
    ∃ D, Instr.fill place C vs = some D ∧ CSR V out D ∧ out.length = cs.length := by
  intro ps
  induction ps with
  | nil =>
    intro vs cs out C hp hc h
    cases vs with
    | nil => simp only [fillA] at h; injection h with h; subst h; exact ⟨C, rfl, hc, rfl⟩
    | cons _ _ => exact hp.elim
  | cons p ps ih =>
    intro vs cs out C hp hc h
    cases vs with
    | nil => exact hp.elim
    | cons q vs =>
      obtain ⟨i, v⟩ := p
      obtain ⟨j, u⟩ := q
      obtain ⟨rfl, hv, hr⟩ := hp
      simp only [fillA] at h
      cases hpl : place i with
      | none => rw [hpl] at h; cases h
      | some os =>
        obtain ⟨o, s⟩ := os
        rw [hpl] at h
        simp only at h
        split at h
        · rename_i hcond
          obtain ⟨D, hD, hcd, hlen⟩ := ih hr (csr_put hc hv hcond.2) h
          refine ⟨D, ?_, hcd, by rw [hlen, putCells_length hcond.2]⟩
          have h1 := hv.len
          have h2 := hc.len
          have hf := foldl_put u.cells.toList 0 o C (by simp; omega)
          rw [Nat.add_zero] at hf
          simp only [Instr.fill, hpl]
          rw [if_neg (by simp; omega)]
          rw [← hD]
          congr 1
          rw [← hf, ← Array.foldl_toList]
          simp
        · cases h

theorem parts_get {V : View} {env : Env} {a : Act} (R : ER V env a.tmps) : ∀ {l : List (Nat × Operand)} {ps : List (Nat × List Cell)}, l.mapM (fun p => ((evo env p.2).cells).map fun cs => (p.1, cs)) = some ps → PartsR V ps (l.map fun p => (p.1, a.eval p.2)) := by
  intro l
  induction l with
  | nil => intro ps h; simp at h; subst h; trivial
  | cons p l ih =>
    intro ps h
    simp only [List.mapM_cons, Option.bind_eq_bind, Option.pure_def] at h
    obtain ⟨y, hy, h⟩ := Option.bind_eq_some_iff.1 h
    obtain ⟨ys, hys, h⟩ := Option.bind_eq_some_iff.1 h
    injection h with h
    subst h
    obtain ⟨cs, hcs, rfl⟩ := Option.map_eq_some_iff.1 hy
    exact ⟨rfl, cells_sound (evo_sound R p.2) hcs, ih hys⟩

theorem zero_sound {P : Program} {V : View} {t : TypeId} {z : List Cell} (h : zeroCells P t = some z) : ∃ v, (∀ w, (zeroValue t).run P w = .ok v w) ∧ CSR V z v.cells ∧ ∃ i, P.info? t = some i ∧ i.zero = some v := by
  unfold zeroCells at h
  cases hi : P.info? t with
  | none => rw [hi] at h; cases h
  | some i =>
    rw [hi] at h
    simp only at h
    cases hz : i.zero with
    | none => rw [hz] at h; cases h
    | some v =>
      rw [hz] at h
      exact ⟨v, fun w => by simp [zeroValue, typeInfo, hi, hz], ofPlains_sound h, i, rfl, hz⟩

/-- Zero cells, one row behind the other. -/
theorem csr_zeros {V : View} {z : List Cell} {zv : Array Value} (hz : CSR V z zv) (h0 : 0 < z.length) (n m : Nat) (hm : m = n * z.length) :
    CSR V (List.replicate n z).flatten ((Array.range m).map (fun i => zv[i % zv.size]!)) := by
  subst hm
  refine ⟨by simp, fun i c hc => ?_⟩
  have hi : i < n * z.length := by have := (List.getElem?_eq_some_iff.1 hc).1; simpa using this
  have hmod : i % z.length < z.length := Nat.mod_lt _ h0
  have hcell : z[i % z.length]? = some c := by
    clear hz
    induction n generalizing i with
    | zero => simp at hi
    | succ n ih =>
      rw [List.replicate_succ, List.flatten_cons] at hc
      by_cases hlt : i < z.length
      · rw [List.getElem?_append_left hlt] at hc
        rw [Nat.mod_eq_of_lt hlt]; exact hc
      · rw [List.getElem?_append_right (by omega)] at hc
        have h2 := ih (i - z.length) hc (by rw [Nat.add_mul] at hi; omega) (Nat.mod_lt _ h0)
        rw [Nat.mod_eq_sub_mod (by omega)]
        exact h2
  have := hz.get _ _ hcell
  have hl := hz.len
  have e : ((Array.range (n * z.length)).map (fun i => zv[i % zv.size]!)).getD i undef = zv.getD (i % z.length) undef := by
    rw [← hl]
    have hx : i % z.length < zv.size := by omega
    simp [Array.getD, hi, hx]
  rw [e]; exact this

theorem chunk_get (sz : Nat) : ∀ (n : Nat) (l : List Cell) (i j : Nat) (c : Cell), rc (chunk sz n l) i j = some c → i < n ∧ j < sz ∧ l[i * sz + j]? = some c := by
  intro n
  induction n with
  | zero => intro l i j c h; simp [chunk, rc] at h
  | succ n ih =>
    intro l i j c h
    cases i with
    | zero =>
      simp only [chunk, rc, List.getElem?_cons_zero, Option.bind_some] at h
      rw [List.getElem?_take] at h
      split at h
      · rename_i hj; exact ⟨by omega, hj, by simpa using h⟩
      · cases h
    | succ i =>
      have h' : rc (chunk sz n (l.drop sz)) i j = some c := by simpa [chunk, rc] using h
      obtain ⟨h1, h2, h3⟩ := ih _ _ _ _ h'
      rw [List.getElem?_drop] at h3
      refine ⟨by omega, h2, ?_⟩
      have : (i + 1) * sz + j = sz + (i * sz + j) := by rw [Nat.add_mul]; omega
      rw [this]; exact h3
theorem chunk_length (sz : Nat) : ∀ (n : Nat) (l : List Cell), (chunk sz n l).length = n
  | 0, _ => rfl
  | n + 1, l => by simp [chunk, chunk_length sz n]
theorem chunk_wid (sz : Nat) : ∀ (n : Nat) (l : List Cell), n * sz ≤ l.length → ∀ r ∈ chunk sz n l, r.length = sz
  | 0, _, _ => by simp [chunk]
  | n + 1, l, h => by
    rw [Nat.add_mul, Nat.one_mul] at h
    intro r hr
    simp only [chunk, List.mem_cons] at hr
    rcases hr with rfl | hr
    · simp; omega
    · exact chunk_wid sz n (l.drop sz) (by simp; omega) r hr

end Go.AM
