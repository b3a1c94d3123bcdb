/- What arguments look like, type by type. -/
import Derived.Test.YthcdhdgpokikfaaAmRow3
import Derived.Test.YthcdhdgpokikfaaAmWk3
namespace Go.AM
section
variable {P : Program} {m : Nat} {t : TypeId} {cs : List Cell}
theorem sh_int [I : UL P t (.int .i64)] (h : Sh P (m + 1) t cs) : ∃ n, cs = [cint n] ∧ fits n := by
  unfold Sh at h
  rw [I.eq] at h
  obtain ⟨n, h1, h2, h3⟩ := h
  refine ⟨n, h1, ?_⟩
  rw [show IntKind.i64.min = -9223372036854775808 from rfl] at h2
  rw [show IntKind.i64.max = 9223372036854775807 from rfl] at h3
  unfold fits
  omega
theorem sh_bool [I : UL P t .bool] (h : Sh P (m + 1) t cs) : ∃ b, cs = [cbool b] := by
  unfold Sh at h
  rw [I.eq] at h
  exact h
theorem list_of {α : Type} {enc : α → List Cell} {Q : α → Prop} : ∀ {rows : List (List Cell)}, (∀ r ∈ rows, ∃ x, r = enc x ∧ Q x) → ∃ l : List α, rows = l.map enc ∧ ∀ x ∈ l, Q x
  | [], _ => ⟨[], rfl, fun _ h => by simp at h⟩
  | r :: rows, h => by
    obtain ⟨x, rfl, hq⟩ := h r (by simp)
    obtain ⟨l, rfl, hl⟩ := list_of (rows := rows) (fun r hr => h r (by simp [hr]))
    exact ⟨x :: l, rfl, fun y hy => by rcases List.mem_cons.1 hy with rfl | hy; exact hq; exact hl y hy⟩
/-- A slice, by its elements. -/
theorem sh_list {α : Type} {enc : α → List Cell} {Q : α → Prop} {e : TypeId} {sz : Nat} [I : UL P t (.slice e)] (h : Sh P (m + 1) t cs) (E : ∀ r, Sh P m e r → ∃ x, r = enc x ∧ Q x) (hsz : P.cellsOf e = sz) :
    ∃ l : List α, cs = [.lst sz (l.map enc)] ∧ l.length ≤ 9223372036854775807 ∧ ∀ x ∈ l, Q x := by
  unfold Sh at h
  rw [I.eq] at h
  obtain ⟨rows, rfl, h2, h3⟩ := h
  obtain ⟨l, rfl, hl⟩ := list_of (fun r hr => E r (h3 r hr))
  have : (maxLen : Nat) = 9223372036854775807 := by rfl
  exact ⟨l, by rw [hsz], by simp at h2; omega, hl⟩
theorem sh_f {fs : Array Field} {f : Field} {n : Nat} (hu : P.underlying t = some (.struct fs)) (h : Sh P (m + 1) t cs) (i : Nat) (hf : fs.toList[i]? = some f) (hn : P.cellsOf f.type = n) : Sh P m f.type ((cs.drop f.offset).take n) := by
  unfold Sh at h
  rw [hu] at h
  rw [← hn]
  exact h.2 f (List.mem_of_getElem? hf)
theorem sh_len {fs : Array Field} {n : Nat} (hu : P.underlying t = some (.struct fs)) (h : Sh P (m + 1) t cs) (hn : P.cellsOf t = n) : cs.length = n := by
  unfold Sh at h
  rw [hu] at h
  rw [← hn]
  exact h.1
theorem cut (off n : Nat) : cs.drop off = (cs.drop off).take n ++ cs.drop (off + n) := by
  rw [← List.drop_drop, List.take_append_drop]
theorem arg_int [I : UL P t (.int .i64)] {a : AV} (h : ArgSh P (m + 1) t a) (hb : aggB P t = some false) : ∃ n, a = vint n ∧ fits n := by
  obtain ⟨cs, h1, rfl⟩ := h
  obtain ⟨n, rfl, hn⟩ := sh_int h1
  exact ⟨n, by simp [mkAV, hb], hn⟩
theorem arg_bool [I : UL P t .bool] {a : AV} (h : ArgSh P (m + 1) t a) (hb : aggB P t = some false) : ∃ b, a = vbool b := by
  obtain ⟨cs, h1, rfl⟩ := h
  obtain ⟨n, rfl⟩ := sh_bool h1
  exact ⟨n, by simp [mkAV, hb]⟩
theorem arg_list {α : Type} {enc : α → List Cell} {Q : α → Prop} {e : TypeId} {sz : Nat} [I : UL P t (.slice e)] {a : AV} (h : ArgSh P (m + 1) t a) (hb : aggB P t = some false) (E : ∀ r, Sh P m e r → ∃ x, r = enc x ∧ Q x) (hsz : P.cellsOf e = sz) :
    ∃ l : List α, a = .one (.lst sz (l.map enc)) ∧ l.length ≤ 9223372036854775807 ∧ ∀ x ∈ l, Q x := by
  obtain ⟨cs, h1, rfl⟩ := h
  obtain ⟨l, rfl, h2, h3⟩ := sh_list h1 E hsz
  exact ⟨l, by simp [mkAV, hb], h2, h3⟩
theorem arg_agg' {a : AV} (h : ArgSh P m t a) (hb : aggB P t = some true) : ∃ cs, a = .agg cs ∧ Sh P m t cs := by
  obtain ⟨cs, h1, rfl⟩ := h
  exact ⟨cs, by simp [mkAV, hb], h1⟩
theorem arg_sl {α : Type} {a : AV} {m' : Nat} {mk : α → List Cell} {Q : α → Prop} (h : ArgSh P m' t a) (hb : aggB P t = some false) (S : ∀ {cs}, Sh P m' t cs → ∃ l : α, cs = mk l ∧ Q l) {c : α → Cell} (hc : ∀ l, mk l = [c l] := by intro l; rfl) : ∃ l, a = .one (c l) ∧ Q l := by
  obtain ⟨cs, h1, rfl⟩ := h
  obtain ⟨l, rfl, hq⟩ := S h1
  exact ⟨l, by simp [mkAV, hb, hc], hq⟩
theorem arg_st {α : Type} {a : AV} {m' : Nat} {mk : α → List Cell} {Q : α → Prop} (h : ArgSh P m' t a) (hb : aggB P t = some true) (S : ∀ {cs}, Sh P m' t cs → ∃ l : α, cs = mk l ∧ Q l) : ∃ l, a = .agg (mk l) ∧ Q l := by
  obtain ⟨cs, h1, rfl⟩ := h
  obtain ⟨l, rfl, hq⟩ := S h1
  exact ⟨l, by simp [mkAV, hb], hq⟩
theorem args_cons {t : TypeId} {ts : List TypeId} {l : List AV} (h : Args P m (t :: ts) l) : ∃ a l', l = a :: l' ∧ ArgSh P m t a ∧ Args P m ts l' := by
  cases l with
  | nil => exact h.elim
  | cons a l => exact ⟨a, l, rfl, h.1, h.2⟩
theorem args_nil {l : List AV} (h : Args P m [] l) : l = [] := by
  cases l with
  | nil => rfl
  | cons a l => exact h.elim
theorem Cv.any {f : FuncId} {as' : List AV} {H : AH} {v : AV} (h : Cv P f as' H (Cl (· = v))) : Cv P f as' H (fun r _ => r = v) := h.mono (fun _ _ q => q.2)
end
end Go.AM
