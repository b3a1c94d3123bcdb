/- Operands, plain operations, cells of values. -/
import Derived.Test.YthcdhdgpokikfaaAmRel
import Derived.Laws.AppendOwn
import Derived.Laws.Sem
namespace Go.AM

theorem ev_run {α : Type} {P : Program} {s : Sem α} {a : α} (h : ev P s = some a) (w : World) : s.run P w = .ok a w := by
  induction s with
  | pure b => simp only [ev] at h; injection h with h; subst h; rfl
  | program k ih => exact ih P h
  | mark m k ih => exact ih h
  | _ => simp [ev] at h

theorem evo_sound {V : View} {env : Env} {a : Act} (h : ER V env a.tmps) (x : Operand) : VR V (evo env x) (a.eval x) := by
  cases x with
  | tmp t => exact h t
  | const v =>
    simp only [evo]
    split
    · rename_i hp; exact .one (.ro (.sc hp))
    · exact .bad _
  | global g => exact .bad _
  | func f => exact .one (.ro .fn)

theorem cells_of_one {v : Value} (h : v.oneCell' = true) : v.cells = #[v] := by
  cases v <;> first | rfl | (simp [Value.oneCell'] at h)

theorem cell_sound {V : View} {x : AV} {v : Value} {c : Cell} (h : VR V x v) (hc : x.cell = some c) : CR V c v := by
  cases h with
  | one h => simp only [AV.cell] at hc; injection hc with hc; subst hc; exact h
  | _ => simp [AV.cell] at hc

structure CSR (V : View) (cs : List Cell) (vs : Array Value) : Prop where
  len : cs.length = vs.size
  get : ∀ i c, cs[i]? = some c → CR V c (vs.getD i undef)
theorem CSR.mono {V V' : View} (E : Ext V V') {cs : List Cell} {vs : Array Value} (h : CSR V cs vs) : CSR V' cs vs := ⟨h.len, fun i c hc => (h.get i c hc).mono E⟩
theorem CSR.one1 {V : View} {cs : List Cell} {vs : Array Value} (h : CSR V cs vs) : ∀ v ∈ vs.toList, v.oneCell' = true := by
  intro v hv
  obtain ⟨i, hi, rfl⟩ := List.getElem_of_mem hv
  have hlt : i < cs.length := by have := h.len; simp at hi; omega
  have := h.get i _ (List.getElem?_eq_getElem hlt)
  have e : vs.getD i undef = vs.toList[i] := by
    simp at hi
    simp [Array.getD, hi]
  rw [e] at this
  exact this.one

theorem cells_sound {V : View} {x : AV} {v : Value} {cs : List Cell} (h : VR V x v) (hc : x.cells = some cs) : CSR V cs v.cells := by
  cases h with
  | one h =>
    simp only [AV.cells] at hc
    injection hc with hc
    subst hc
    rw [cells_of_one h.one]
    refine ⟨rfl, fun i c hc => ?_⟩
    cases i with
    | zero => simp at hc; subst hc; exact h
    | succ i => simp at hc
  | agg h1 h2 => simp only [AV.cells] at hc; injection hc with hc; subst hc; exact ⟨h1, h2⟩
  | _ => simp [AV.cells] at hc

theorem toV_cell {V : View} {c : Cell} {v u : Value} (h : CR V c v) (hc : c.toV = some u) : v = u := by
  cases c with
  | sc x =>
    simp only [Cell.toV] at hc
    injection hc with hc
    subst hc
    cases h with
    | ro h => cases h with | sc _ => rfl
  | _ => simp [Cell.toV] at hc

theorem mapM_get {α β : Type} {f : α → Option β} : ∀ {l : List α} {r : List β}, l.mapM f = some r → r.length = l.length ∧ ∀ (i : Nat) (x : α), l[i]? = some x → ∃ y, f x = some y ∧ r[i]? = some y := by
  intro l
  induction l with
  | nil => intro r h; simp at h; subst h; exact ⟨rfl, fun i x hx => by simp at hx⟩
  | cons a l ih =>
    intro r h
    simp only [List.mapM_cons, Option.bind_eq_bind, Option.pure_def] at h
    obtain ⟨y, hy, h⟩ := Option.bind_eq_some_iff.1 h
    obtain ⟨ys, hys, h⟩ := Option.bind_eq_some_iff.1 h
    injection h with h
    subst h
    obtain ⟨h1, h2⟩ := ih hys
    refine ⟨by simp [h1], fun i x hx => ?_⟩
    cases i with
    | zero => simp at hx; subst hx; exact ⟨y, hy, rfl⟩
    | succ i => simp at hx; simpa using h2 i x hx

theorem toVs_get : ∀ {vs : List AV} {l : List Value}, AV.toVs vs = some l → l.length = vs.length ∧ ∀ (i : Nat) (x : AV), vs[i]? = some x → ∃ y, x.toV = some y ∧ l[i]? = some y := by
  intro vs
  induction vs with
  | nil => intro l h; simp [AV.toVs] at h; subst h; exact ⟨rfl, fun i x hx => by simp at hx⟩
  | cons v r ih =>
    intro l h
    simp only [AV.toVs] at h
    split at h
    · rename_i x l' hx hl
      injection h with h
      subst h
      obtain ⟨h1, h2⟩ := ih hl
      refine ⟨by simp [h1], fun i y hy => ?_⟩
      cases i with
      | zero => simp at hy; subst hy; exact ⟨x, hx, rfl⟩
      | succ i => simp at hy; simpa using h2 i y hy
    · cases h

theorem arr_ext {vs : Array Value} {l : List Value} (hl : vs.size = l.length) (h : ∀ i y, l[i]? = some y → vs.getD i undef = y) : vs = l.toArray := by
  apply Array.ext
  · simpa using hl
  · intro i h1 h2
    have := h i (l[i]'(by simpa using h2)) (List.getElem?_eq_getElem _)
    simp [Array.getD, h1] at this
    simpa using this

theorem toV_sound {V : View} {x : AV} {v : Value} (h : VR V x v) : ∀ u, x.toV = some u → v = u := by
  induction h with
  | one h => intro u hu; exact toV_cell h hu
  | @agg cs vs h1 h2 =>
    intro u hu
    simp only [AV.toV, Option.map_eq_some_iff] at hu
    obtain ⟨l, hl, rfl⟩ := hu
    obtain ⟨h3, h4⟩ := mapM_get hl
    congr 1
    refine arr_ext (by omega) (fun i y hy => ?_)
    have hlt : i < cs.length := by have := (List.getElem?_eq_some_iff.1 hy).1; omega
    obtain ⟨y', hy', hy2⟩ := h4 i _ (List.getElem?_eq_getElem hlt)
    rw [hy] at hy2
    injection hy2 with hy2
    subst hy2
    exact toV_cell (h2 i _ (List.getElem?_eq_getElem hlt)) hy'
  | @tup xs vs h1 h2 ih =>
    intro u hu
    simp only [AV.toV, Option.map_eq_some_iff] at hu
    obtain ⟨l, hl, rfl⟩ := hu
    obtain ⟨h3, h4⟩ := toVs_get hl
    congr 1
    refine arr_ext (by omega) (fun i y hy => ?_)
    have hlt : i < xs.length := by have := (List.getElem?_eq_some_iff.1 hy).1; omega
    obtain ⟨y', hy', hy2⟩ := h4 i _ (List.getElem?_eq_getElem hlt)
    rw [hy] at hy2
    injection hy2 with hy2
    subst hy2
    exact ih i _ (List.getElem?_eq_getElem hlt) _ hy'
  | und => intro u hu; simp [AV.toV] at hu
  | bad v => intro u hu; simp [AV.toV] at hu

theorem ofPlain_sound {V : View} {v : Value} {c : Cell} (h : ofPlain v = some c) : CR V c v := by
  unfold ofPlain at h
  split at h
  · rename_i hp; injection h with h; subst h; exact .ro (.sc hp)
  · cases h
theorem getD_of_list {vs : Array Value} {i : Nat} {y : Value} (h : vs.toList[i]? = some y) : vs.getD i undef = y := by
  have hlt := (List.getElem?_eq_some_iff.1 h).1
  have hx : i < vs.size := by simpa using hlt
  simp [Array.getD, hx]
  simpa [hx] using h
theorem ofPlains_sound {V : View} {vs : Array Value} {cs : List Cell} (h : vs.toList.mapM ofPlain = some cs) : CSR V cs vs := by
  obtain ⟨h1, h2⟩ := mapM_get h
  refine ⟨by simpa using h1, fun i c hc => ?_⟩
  have hlt : i < vs.toList.length := by have := (List.getElem?_eq_some_iff.1 hc).1; omega
  obtain ⟨y, hy, hy2⟩ := h2 i _ (List.getElem?_eq_getElem hlt)
  rw [hc] at hy2
  injection hy2 with hy2
  subst hy2
  rw [getD_of_list (List.getElem?_eq_getElem hlt)]
  exact ofPlain_sound hy
theorem ofV1_sound {V : View} {v : Value} {x : AV} (h : ofV1 v = some x) : VR V x v := by
  unfold ofV1 at h
  split at h
  · obtain ⟨cs, hcs, rfl⟩ := Option.map_eq_some_iff.1 h
    have := ofPlains_sound (V := V) hcs
    exact .agg this.len this.get
  · obtain ⟨c, hc, rfl⟩ := Option.map_eq_some_iff.1 h
    exact .one (ofPlain_sound hc)
theorem ofV_sound {V : View} {v : Value} {x : AV} (h : ofV v = some x) : VR V x v := by
  unfold ofV at h
  split at h
  · rename_i vs
    obtain ⟨xs, hxs, rfl⟩ := Option.map_eq_some_iff.1 h
    obtain ⟨h1, h2⟩ := mapM_get hxs
    refine .tup (by simpa using h1) (fun i c hc => ?_)
    have hlt : i < vs.toList.length := by have := (List.getElem?_eq_some_iff.1 hc).1; omega
    obtain ⟨y, hy, hy2⟩ := h2 i _ (List.getElem?_eq_getElem hlt)
    rw [hc] at hy2
    injection hy2 with hy2
    subst hy2
    rw [getD_of_list (List.getElem?_eq_getElem hlt)]
    exact ofV1_sound hy
  · exact ofV1_sound h

/-! ### What an operation is to do -/
def bapp (bl : Nat → Blk) : Option (Nat × Blk) → (Nat → Blk)
  | none => bl
  | some (h, b) => upd bl h b
def OpOk (P : Program) (V : View) (s : Sem Next) (v : AV) (d : Option (Nat × Blk)) : Prop :=
  ∃ r w' mu' v', s.run P V.w = .ok r w' ∧ (r = .value v' ∨ (r = .skip ∧ v' = undef)) ∧ Ext V ⟨w', mu', bapp V.bl d, V.hid⟩ ∧ HR ⟨w', mu', bapp V.bl d, V.hid⟩ ∧ VR ⟨w', mu', bapp V.bl d, V.hid⟩ v v' ∧
    ∀ j, (∀ b, d ≠ some (j, b)) → mu' j = V.mu j

theorem OpOk.value {P : Program} {V : View} (H : HR V) {s : Sem Next} {v : AV} {v' : Value} (hs : s.run P V.w = .ok (.value v') V.w) (hv : VR V v v') : OpOk P V s v none :=
  ⟨_, V.w, V.mu, v', hs, .inl rfl, Ext.refl V, H, hv, fun _ _ => rfl⟩

theorem all_get {α : Type} {l : List α} {p : α → Bool} (h : l.all p = true) : ∀ x ∈ l, p x = true := by simpa using h

theorem plainOp_sound {P : Program} {V : View} (H : HR V) {env : Env} {a : Act} (R : ER V env a.tmps) {o : Oper} (hs : ∀ cs b, o.op ≠ .select cs b) {v : AV} {d : Option (Nat × Blk)} (h : plainOp P env o = some (v, d)) :
    OpOk P V (execOp a.eval o) v d := by
  unfold plainOp at h
  split at h
  · rename_i hall
    split at h
    · rename_i u hev
      obtain ⟨x, hx, he⟩ := Option.map_eq_some_iff.1 h
      injection he with he1 he2
      subst he1 he2
      have hc : execOp a.eval o = execOp (fun x => ((evo env x).toV).getD undef) o := by
        refine execOp_congr o hs (fun x hx => ?_)
        have h1 := all_get hall x (by simpa using hx)
        obtain ⟨u', hu'⟩ := Option.isSome_iff_exists.1 h1
        rw [hu', Option.getD_some]
        exact toV_sound (evo_sound R x) _ hu'
      exact .value H (hc ▸ ev_run hev V.w) (ofV_sound hx)
    · cases h
  · cases h

end Go.AM
