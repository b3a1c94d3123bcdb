/- The relation between the abstract machine's cells and heap and Go's memory. -/
import Derived.Test.YthcdhdgpokikfaaAmDefs
namespace Go.AM

def Blk.live : Blk → Prop
  | .none | .dead => False
  | _ => True

structure View where
  w : World
  mu : Nat → Nat
  bl : Nat → Blk
  hid : Nat → Prop
/-- A block that may yet be written: by its handle, or hidden from the code that runs. -/
def own (V : View) (b : Nat) : Prop := V.hid b ∨ ∃ h, (V.bl h).live ∧ V.mu h = b
def rc (rows : List (List Cell)) (i j : Nat) : Option Cell := (rows[i]?).bind (·[j]?)

inductive RO (w : World) (own : Nat → Prop) : Cell → Value → Prop
  | sc {v : Value} : plainC v = true → RO w own (.sc v) v
  | e0 {A : Option Addr} : RO w own .e0 (.slice A 0 0)
  | fn {f : Fn} : RO w own (.fn f [] []) (.func f #[] #[])
  | nil {sz : Nat} {A : Option Addr} : RO w own (.lst sz []) (.slice A 0 0)
  | lst {sz : Nat} {rows : List (List Cell)} {a : Addr} {cap : Nat} (u : Nat → Nat → Value) : rows.length ≤ cap → a.spot = none → (∀ r ∈ rows, r.length = sz) →
      (∀ i j c, rc rows i j = some c → ¬ own a.block ∧ w.cell? ⟨a.block, a.off + (i * sz + j), none⟩ = some (u i j)) →
      (∀ i j c, rc rows i j = some c → RO w own c (u i j)) → RO w own (.lst sz rows) (.slice (some a) rows.length cap)

def SlOk (V : View) (h sz n lo len : Nat) (v : Value) : Prop :=
  lo + len ≤ n ∧ ∃ cap cells e fr, V.w.heap[V.mu h]? = some (.cells cells e fr) ∧ len ≤ cap ∧ (lo + cap) * sz ≤ cells.size ∧ v = .slice (some ⟨V.mu h, lo * sz, none⟩) len cap

inductive CR (V : View) : Cell → Value → Prop
  | ro {c : Cell} {v : Value} : RO V.w (own V) c v → CR V c v
  | sl {h n lo len : Nat} {A : Addr} {cap : Nat} : V.bl h ≠ .none → len ≤ cap →
      (∀ sz rows, V.bl h = .arr sz rows → n ≤ rows.length ∧ (rows.length = n → SlOk V h sz n lo len (.slice (some A) len cap))) → CR V (.sl h n lo len) (.slice (some A) len cap)
  | ep {a : Cell} {sz i off : Nat} {A : Addr} {n cap : Nat} : CR V a (.slice (some A) n cap) → A.spot = none →
      CR V (.ep a sz i off) (.pointer (some ⟨A.block, A.off + (i * sz + off), none⟩))
  | bp {h off b : Nat} : V.bl h ≠ .none → (∀ cs, V.bl h = .box cs → b = V.mu h) → CR V (.bp h off) (.pointer (some ⟨b, off, none⟩))
  | fn {f : Fn} {p q : List Cell} {p' q' : Array Value} : p.length = p'.size → q.length = q'.size →
      (∀ i c, p[i]? = some c → CR V c (p'.getD i undef)) → (∀ i c, q[i]? = some c → CR V c (q'.getD i undef)) → CR V (.fn f p q) (.func f p' q')
  | mp {h b : Nat} : V.bl h ≠ .none → (∀ es, V.bl h = .map es → b = V.mu h) → CR V (.mp h) (.map (some b))
  | yl {h b : Nat} : V.bl h ≠ .none → (∀ r, V.bl h = .loop r → b = V.mu h) → CR V (.yl h) (.func (.yield b) #[] #[])

inductive VR (V : View) : AV → Value → Prop
  | one {c : Cell} {v : Value} : CR V c v → VR V (.one c) v
  | agg {cs : List Cell} {vs : Array Value} : cs.length = vs.size → (∀ i c, cs[i]? = some c → CR V c (vs.getD i undef)) → VR V (.agg cs) (.agg vs)
  | tup {xs : List AV} {vs : Array Value} : xs.length = vs.size → (∀ i x, xs[i]? = some x → VR V x (vs.getD i undef)) → VR V (.tup xs) (.tuple vs)
  | und : VR V .und undef
  | bad (v : Value) : VR V .bad v

def ER (V : View) (env : Env) (tmps : Array Value) : Prop := ∀ t, VR V (env t) (tmps.getD t undef)

/-- What a block may turn into. -/
def Turn (V V' : View) (h : Nat) : Prop :=
  match V.bl h with
  | .none => True
  | .dead => V'.bl h = .dead
  | .box cs => V'.bl h = .dead ∨ (∃ cs', V'.bl h = .box cs' ∧ cs'.length = cs.length ∧ V'.mu h = V.mu h)
  | .arr sz rows => V'.bl h = .dead ∨ (∃ rows', V'.bl h = .arr sz rows' ∧
      ((rows'.length = rows.length ∧ V'.mu h = V.mu h ∧ ∀ cells e fr, V.w.heap[V.mu h]? = some (.cells cells e fr) → ∃ cells', V'.w.heap[V.mu h]? = some (.cells cells' e fr) ∧ cells'.size = cells.size) ∨ rows.length < rows'.length))
  | .map _ => V'.bl h = .dead ∨ (∃ es', V'.bl h = .map es' ∧ V'.mu h = V.mu h)
  | .loop _ => ∃ r', V'.bl h = .loop r' ∧ V'.mu h = V.mu h

structure Ext0 (V V' : View) : Prop where
  size : V.w.heap.size ≤ V'.w.heap.size
  keep : ∀ b, b < V.w.heap.size → ¬ own V b → V'.w.heap[b]? = V.w.heap[b]? ∧ ¬ own V' b
  turn : ∀ h, Turn V V' h
/-- The same, where only what holds cells is told of. -/
structure ExtW (V V' : View) : Prop where
  keepC : ∀ b C e fr, V.w.heap[b]? = some (.cells C e fr) → ¬ own V b → V'.w.heap[b]? = V.w.heap[b]? ∧ ¬ own V' b
  turn : ∀ h, Turn V V' h
theorem Ext0.toW {V V' : View} (E : Ext0 V V') : ExtW V V' := ⟨fun b _ _ _ h hn => E.keep b (Array.getElem?_eq_some_iff.1 h).1 hn, E.turn⟩
/-- What is outside the heap is as it was. -/
def Wio (w w' : World) : Prop := w'.os = w.os ∧ w'.output = w.output ∧ w'.tape = w.tape
theorem Wio.trans {a b c : World} (h : Wio a b) (g : Wio b c) : Wio a c := ⟨g.1.trans h.1, g.2.1.trans h.2.1, g.2.2.trans h.2.2⟩
structure Ext (V V' : View) : Prop extends Ext0 V V' where
  io : Wio V.w V'.w
  hidk : ∀ b, V.hid b → V'.hid b ∧ V'.w.heap[b]? = V.w.heap[b]?
theorem Ext.toW {V V' : View} (E : Ext V V') : ExtW V V' := E.toExt0.toW

theorem Ext.refl (V : View) : Ext V V := by
  refine ⟨⟨Nat.le_refl _, fun b _ hb => ⟨rfl, hb⟩, fun h => ?_⟩, ⟨rfl, rfl, rfl⟩, fun b hb => ⟨hb, rfl⟩⟩
  unfold Turn
  cases hb : V.bl h with
  | none => trivial
  | dead => rfl
  | box cs => exact .inr ⟨cs, rfl, rfl, rfl⟩
  | arr sz rows => exact .inr ⟨rows, rfl, .inl ⟨rfl, rfl, fun cells e fr h => ⟨cells, h, rfl⟩⟩⟩
  | map es => exact .inr ⟨es, rfl, rfl⟩
  | loop r => exact ⟨r, rfl, rfl⟩

theorem Turn.trans {V V1 V2 : View} {h : Nat} (a : Turn V V1 h) (b : Turn V1 V2 h) : Turn V V2 h := by
  unfold Turn at a ⊢
  cases hb : V.bl h with
  | none => trivial
  | dead =>
    rw [hb] at a
    simp only at a
    unfold Turn at b
    rw [a] at b
    exact b
  | box cs =>
    rw [hb] at a
    rcases a with a | ⟨cs', a, al, am⟩
    · unfold Turn at b; rw [a] at b; exact .inl b
    · unfold Turn at b; rw [a] at b
      rcases b with b | ⟨cs'', b, bl, bm⟩
      · exact .inl b
      · exact .inr ⟨cs'', b, by omega, by rw [bm, am]⟩
  | arr sz rows =>
    rw [hb] at a
    rcases a with a | ⟨rows', a, a2⟩
    · unfold Turn at b; rw [a] at b; exact .inl b
    · unfold Turn at b; rw [a] at b
      rcases b with b | ⟨rows'', b, b2⟩
      · exact .inl b
      · refine .inr ⟨rows'', b, ?_⟩
        rcases a2 with ⟨al, am, ac⟩ | al
        · rcases b2 with ⟨bl, bm, bc⟩ | bl
          · refine .inl ⟨by omega, by rw [bm, am], fun cells e fr hc => ?_⟩
            obtain ⟨c1, h1, s1⟩ := ac cells e fr hc
            rw [am] at bc
            obtain ⟨c2, h2, s2⟩ := bc c1 e fr h1
            exact ⟨c2, h2, by omega⟩
          · exact .inr (by omega)
        · rcases b2 with ⟨bl, bm, bc⟩ | bl
          · exact .inr (by omega)
          · exact .inr (by omega)
  | map es =>
    rw [hb] at a
    rcases a with a | ⟨es', a, am⟩
    · unfold Turn at b; rw [a] at b; exact .inl b
    · unfold Turn at b; rw [a] at b
      rcases b with b | ⟨es'', b, bm⟩
      · exact .inl b
      · exact .inr ⟨es'', b, by rw [bm, am]⟩
  | loop r =>
    rw [hb] at a
    obtain ⟨es', a, am⟩ := a
    unfold Turn at b; rw [a] at b
    obtain ⟨es'', b, bm⟩ := b
    exact ⟨es'', b, by rw [bm, am]⟩

theorem Ext.trans {V V1 V2 : View} (a : Ext V V1) (b : Ext V1 V2) : Ext V V2 := by
  refine ⟨⟨Nat.le_trans a.size b.size, fun x hx hn => ?_, fun h => (a.turn h).trans (b.turn h)⟩, a.io.trans b.io, fun x hx => ?_⟩
  rotate_left
  · obtain ⟨h1, e1⟩ := a.hidk x hx
    obtain ⟨h2, e2⟩ := b.hidk x h1
    exact ⟨h2, e2.trans e1⟩
  obtain ⟨e1, n1⟩ := a.keep x hx hn
  obtain ⟨e2, n2⟩ := b.keep x (Nat.lt_of_lt_of_le hx a.size) n1
  exact ⟨e2.trans e1, n2⟩

theorem Turn.ne_none {V V' : View} {h : Nat} (t : Turn V V' h) (hb : V.bl h ≠ .none) : V'.bl h ≠ .none := by
  unfold Turn at t
  cases hv : V.bl h with
  | none => exact absurd hv hb
  | dead => rw [hv] at t; simp only at t; rw [t]; simp
  | box cs => rw [hv] at t; rcases t with t | ⟨_, t, _⟩ <;> rw [t] <;> simp
  | arr sz rows => rw [hv] at t; rcases t with t | ⟨_, t, _⟩ <;> rw [t] <;> simp
  | map es => rw [hv] at t; rcases t with t | ⟨_, t, _⟩ <;> rw [t] <;> simp
  | loop r => rw [hv] at t; obtain ⟨_, t, _⟩ := t; rw [t]; simp

theorem cell_of_heap {w w' : World} {a : Addr} (h : w'.heap[a.block]? = w.heap[a.block]?) : w'.cell? a = w.cell? a := by simp [World.cell?, h]
theorem lt_of_cell {w : World} {a : Addr} {v : Value} (h : w.cell? a = some v) : a.block < w.heap.size := by
  unfold World.cell? at h
  cases hb : w.heap[a.block]? with
  | none => rw [hb] at h; cases h
  | some o => exact (Array.getElem?_eq_some_iff.1 hb).1

/-- What came in, and what was made and let go, stays. -/
theorem cells_of_cell {w : World} {a : Addr} {v : Value} (h : w.cell? a = some v) : ∃ C e fr, w.heap[a.block]? = some (.cells C e fr) := by
  unfold World.cell? at h
  cases hb : w.heap[a.block]? with
  | none => rw [hb] at h; cases h
  | some o => rw [hb] at h; cases o <;> first | exact ⟨_, _, _, rfl⟩ | cases h
theorem RO.mono {w w' : World} {own own' : Nat → Prop} (hk : ∀ b C e fr, w.heap[b]? = some (.cells C e fr) → ¬ own b → w'.heap[b]? = w.heap[b]? ∧ ¬ own' b) {c : Cell} {v : Value} (h : RO w own c v) : RO w' own' c v := by
  induction h with
  | sc h => exact .sc h
  | e0 => exact .e0
  | fn => exact .fn
  | nil => exact .nil
  | @lst sz rows a cap u h1 h2 h3 h4 h5 ih =>
    refine .lst u h1 h2 h3 (fun i j c hc => ?_) ih
    obtain ⟨hn, hv⟩ := h4 i j c hc
    obtain ⟨_, _, _, hC⟩ := cells_of_cell (a := ⟨a.block, _, none⟩) hv
    have hb := hk a.block _ _ _ hC hn
    exact ⟨hb.2, (cell_of_heap (a := ⟨a.block, _, none⟩) hb.1).trans hv⟩

theorem RO.one {w : World} {own : Nat → Prop} {c : Cell} {v : Value} (h : RO w own c v) : v.oneCell' = true := by
  cases h with
  | sc h => cases v <;> simp_all [plainC, Value.oneCell']
  | _ => rfl
theorem CR.one {V : View} {c : Cell} {v : Value} (h : CR V c v) : v.oneCell' = true := by
  cases h with
  | ro h => exact h.one
  | _ => rfl

theorem CR.mono0 {V V' : View} (E : ExtW V V') {c : Cell} {v : Value} (h : CR V c v) : CR V' c v := by
  induction h with
  | ro h => exact .ro (h.mono E.keepC)
  | @sl h n lo len A cap h1 h2 h3 =>
    refine .sl ((E.turn h).ne_none h1) h2 (fun sz rows' hb => ?_)
    have t := E.turn h
    unfold Turn at t
    cases hv : V.bl h with
    | none => exact absurd hv h1
    | dead => rw [hv] at t; simp only at t; rw [t] at hb; cases hb
    | box cs => rw [hv] at t; rcases t with t | ⟨_, t, _⟩ <;> rw [t] at hb <;> cases hb
    | map es => rw [hv] at t; rcases t with t | ⟨_, t, _⟩ <;> rw [t] at hb <;> cases hb
    | loop r => rw [hv] at t; obtain ⟨_, t, _⟩ := t; rw [t] at hb; cases hb
    | arr sz0 rows =>
      rw [hv] at t
      obtain ⟨hle, hok⟩ := h3 sz0 rows hv
      rcases t with t | ⟨rows'', t, t2⟩
      · rw [t] at hb; cases hb
      · rw [t] at hb
        injection hb with hsz hrows
        subst hsz hrows
        rcases t2 with ⟨tl, tm, tc⟩ | tl
        · refine ⟨by omega, fun hl => ?_⟩
          obtain ⟨h4, cap, cells, e, fr, h5, h6, h7, h8⟩ := hok (by omega)
          obtain ⟨cells', h9, h10⟩ := tc _ _ _ h5
          exact ⟨h4, cap, cells', e, fr, by rw [tm]; exact h9, h6, by omega, by rw [tm]; exact h8⟩
        · exact ⟨by omega, fun hl => absurd hl (by omega)⟩
  | ep _ h2 ih => exact .ep ih h2
  | @bp h off b h1 h3 =>
    refine .bp ((E.turn h).ne_none h1) (fun cs hb => ?_)
    have t := E.turn h
    unfold Turn at t
    cases hv : V.bl h with
    | none => exact absurd hv h1
    | dead => rw [hv] at t; simp only at t; rw [t] at hb; cases hb
    | arr sz rows => rw [hv] at t; rcases t with t | ⟨_, t, _⟩ <;> rw [t] at hb <;> cases hb
    | map es => rw [hv] at t; rcases t with t | ⟨_, t, _⟩ <;> rw [t] at hb <;> cases hb
    | loop r => rw [hv] at t; obtain ⟨_, t, _⟩ := t; rw [t] at hb; cases hb
    | box cs0 =>
      rw [hv] at t
      rcases t with t | ⟨_, t, _, tm⟩
      · rw [t] at hb; cases hb
      · rw [tm]; exact h3 cs0 hv
  | fn h1 h2 _ _ ih1 ih2 => exact .fn h1 h2 ih1 ih2
  | @mp h b h1 h3 =>
    refine .mp ((E.turn h).ne_none h1) (fun cs hb => ?_)
    have t := E.turn h
    unfold Turn at t
    cases hv : V.bl h with
    | none => exact absurd hv h1
    | dead => rw [hv] at t; simp only at t; rw [t] at hb; cases hb
    | arr sz rows => rw [hv] at t; rcases t with t | ⟨_, t, _⟩ <;> rw [t] at hb <;> cases hb
    | box es => rw [hv] at t; rcases t with t | ⟨_, t, _⟩ <;> rw [t] at hb <;> cases hb
    | loop r => rw [hv] at t; obtain ⟨_, t, _⟩ := t; rw [t] at hb; cases hb
    | map cs0 =>
      rw [hv] at t
      rcases t with t | ⟨_, t, tm⟩
      · rw [t] at hb; cases hb
      · rw [tm]; exact h3 cs0 hv
  | @yl h b h1 h3 =>
    refine .yl ((E.turn h).ne_none h1) (fun cs hb => ?_)
    have t := E.turn h
    unfold Turn at t
    cases hv : V.bl h with
    | none => exact absurd hv h1
    | dead => rw [hv] at t; simp only at t; rw [t] at hb; cases hb
    | arr sz rows => rw [hv] at t; rcases t with t | ⟨_, t, _⟩ <;> rw [t] at hb <;> cases hb
    | box es => rw [hv] at t; rcases t with t | ⟨_, t, _⟩ <;> rw [t] at hb <;> cases hb
    | map r => rw [hv] at t; rcases t with t | ⟨_, t, _⟩ <;> rw [t] at hb <;> cases hb
    | loop cs0 =>
      rw [hv] at t
      obtain ⟨_, t, tm⟩ := t
      rw [tm]; exact h3 cs0 hv

theorem CR.mono {V V' : View} (E : Ext V V') {c : Cell} {v : Value} (h : CR V c v) : CR V' c v := h.mono0 E.toW
theorem VR.mono0 {V V' : View} (E : ExtW V V') {x : AV} {v : Value} (h : VR V x v) : VR V' x v := by
  induction h with
  | one h => exact .one (h.mono0 E)
  | agg h1 h2 => exact .agg h1 (fun i c hc => (h2 i c hc).mono0 E)
  | tup h1 _ ih => exact .tup h1 ih
  | und => exact .und
  | bad v => exact .bad v
theorem VR.mono {V V' : View} (E : Ext V V') {x : AV} {v : Value} (h : VR V x v) : VR V' x v := h.mono0 E.toW
theorem ER.mono0 {V V' : View} (E : ExtW V V') {env : Env} {ts : Array Value} (h : ER V env ts) : ER V' env ts := fun t => (h t).mono0 E
theorem ER.mono {V V' : View} (E : Ext V V') {env : Env} {ts : Array Value} (h : ER V env ts) : ER V' env ts := fun t => (h t).mono E

/-! ### The heap -/
def jumpCode : Jump → Code
  | .ret => .ret
  | .exit id => .exit id
  | .goto l => .goto l

structure LR (V : View) (r : LoopRec) (L : Loop) : Prop where
  params : L.params.toList = r.params
  assign : L.assign = r.assign
  body : L.body = r.body
  env : ER V r.env L.tmps
  ok : r.params.all (fun t => decide (t < L.tmps.size)) = true ∧ codeOk L.tmps.size r.assign = true ∧ codeOk L.tmps.size r.body = true
  ready : r.over = false → r.ready = true → L.state = .ready ∧ L.pending = none ∧ r.pending = none
  done : ∀ j, r.over = false → r.ready = false → r.pending = some j → L.state = .done ∧ L.pending = some (jumpCode j)

/-- What a block's object holds. -/
def Holds (V : View) (b : Nat) : Blk → Prop
  | .none | .dead => True
  | .box cs => ∃ C e, V.w.heap[b]? = some (.cells C e (0, 0)) ∧ cs.length ≤ C.size ∧ ∀ i c, cs[i]? = some c → CR V c (C.getD i undef)
  | .arr sz rows => (∀ r ∈ rows, r.length = sz) ∧ ∃ C e, V.w.heap[b]? = some (.cells C e (0, 0)) ∧ rows.length * sz ≤ C.size ∧
      ∀ i j c, rc rows i j = some c → CR V c (C.getD (i * sz + j) undef)
  | .map es => ∃ (ents : Array MapEntry) (clock : Nat), V.w.heap[b]? = some (.map ents clock) ∧ ents.size = es.length ∧
      ∀ (i : Nat) (k : Value) (x : AV), es[i]? = some (k, x) → ∃ m : MapEntry, ents[i]? = some m ∧ m.key = k ∧ VR V x m.val
  | .loop r => ∃ L, V.w.heap[b]? = some (.loop L) ∧ LR V r L

structure HR (V : View) : Prop where
  holds : ∀ h, Holds V (V.mu h) (V.bl h)
  inj : ∀ h h', (V.bl h).live → (V.bl h').live → V.mu h = V.mu h' → h = h'
  hid : ∀ b, V.hid b → b < V.w.heap.size ∧ ∀ h, (V.bl h).live → V.mu h ≠ b

theorem LR.mono {V V' : View} (E : ExtW V V') {r : LoopRec} {L : Loop} (h : LR V r L) : LR V' r L :=
  ⟨h.params, h.assign, h.body, h.env.mono0 E, h.ok, h.ready, h.done⟩

/-- A block whose object is as it was holds what it held. -/
theorem Holds.mono0 {V V' : View} (E : ExtW V V') {b b' : Nat} {k : Blk} (hb : V'.w.heap[b']? = V.w.heap[b]?) (h : Holds V b k) : Holds V' b' k := by
  cases k with
  | none => trivial
  | dead => trivial
  | box cs =>
    obtain ⟨C, e, h1, h2, h3⟩ := h
    exact ⟨C, e, hb.trans h1, h2, fun i c hc => (h3 i c hc).mono0 E⟩
  | arr sz rows =>
    obtain ⟨h0, C, e, h1, h2, h3⟩ := h
    exact ⟨h0, C, e, hb.trans h1, h2, fun i j c hc => (h3 i j c hc).mono0 E⟩
  | map es =>
    obtain ⟨ents, clock, h1, h2, h3⟩ := h
    exact ⟨ents, clock, hb.trans h1, h2, fun i k x hx => let ⟨m, h4, h5, h6⟩ := h3 i k x hx; ⟨m, h4, h5, h6.mono0 E⟩⟩
  | loop r =>
    obtain ⟨L, h1, h2⟩ := h
    exact ⟨L, hb.trans h1, h2.mono E⟩
theorem Holds.mono {V V' : View} (E : Ext V V') {b b' : Nat} {k : Blk} (hb : V'.w.heap[b']? = V.w.heap[b]?) (h : Holds V b k) : Holds V' b' k := h.mono0 E.toW hb

theorem HR.lt {V : View} (H : HR V) {h : Nat} (hl : (V.bl h).live) : V.mu h < V.w.heap.size := by
  have := H.holds h
  cases hb : V.bl h with
  | none => rw [hb] at hl; exact hl.elim
  | dead => rw [hb] at hl; exact hl.elim
  | box cs => rw [hb] at this; obtain ⟨_, _, h1, _⟩ := this; exact (Array.getElem?_eq_some_iff.1 h1).1
  | arr sz rows => rw [hb] at this; obtain ⟨_, _, _, h1, _⟩ := this; exact (Array.getElem?_eq_some_iff.1 h1).1
  | map es => rw [hb] at this; obtain ⟨_, _, h1, _⟩ := this; exact (Array.getElem?_eq_some_iff.1 h1).1
  | loop r => rw [hb] at this; obtain ⟨_, h1, _⟩ := this; exact (Array.getElem?_eq_some_iff.1 h1).1

theorem upd_same {α : Type} (f : Nat → α) (k : Nat) (v : α) : upd f k v k = v := by simp [upd]
theorem upd_ne {α : Type} (f : Nat → α) {k j : Nat} (v : α) (h : j ≠ k) : upd f k v j = f j := by simp [upd, h]

theorem HR.at {V : View} (H : HR V) {h : Nat} {k : Blk} (hb : V.bl h = k) : Holds V (V.mu h) k := hb ▸ H.holds h

/-- Nothing but the count of draws has turned. -/
theorem View.still {V : View} {w' : World} (he : w'.heap = V.w.heap) (hio : Wio V.w w' := by exact ⟨rfl, rfl, rfl⟩) : Ext V ⟨w', V.mu, V.bl, V.hid⟩ := by
  refine ⟨⟨by rw [he]; exact Nat.le_refl _, fun b _ hb => ⟨by rw [he], hb⟩, fun h => ?_⟩, hio, fun b hb => ⟨hb, by rw [he]⟩⟩
  unfold Turn
  cases hb : V.bl h with
  | none => trivial
  | dead => rfl
  | box cs => exact .inr ⟨cs, rfl, rfl, rfl⟩
  | arr sz rows => exact .inr ⟨rows, rfl, .inl ⟨rfl, rfl, fun cells e fr h => ⟨cells, by simp only [he]; exact h, rfl⟩⟩⟩
  | map es => exact .inr ⟨es, rfl, rfl⟩
  | loop r => exact ⟨r, rfl, rfl⟩
theorem HR.still {V : View} (H : HR V) {w' : World} (he : w'.heap = V.w.heap) (hio : Wio V.w w' := by exact ⟨rfl, rfl, rfl⟩) : HR ⟨w', V.mu, V.bl, V.hid⟩ :=
  ⟨fun h => (H.holds h).mono (View.still he hio) (by simp only [he]), H.inj, fun b hb => ⟨by simp only [he]; exact (H.hid b hb).1, (H.hid b hb).2⟩⟩

theorem Turn.of_same {V V' : View} {h : Nat} (hb : V'.bl h = V.bl h) (hm : V'.mu h = V.mu h)
    (hc : (V.bl h).live → V'.w.heap[V.mu h]? = V.w.heap[V.mu h]?) : Turn V V' h := by
  unfold Turn
  cases hv : V.bl h with
  | none => trivial
  | dead => exact hb.trans hv
  | box cs => exact .inr ⟨cs, hb.trans hv, rfl, hm⟩
  | arr sz rows => exact .inr ⟨rows, hb.trans hv, .inl ⟨rfl, hm, fun cells e fr h => ⟨cells, (hc (by rw [hv]; trivial)).trans h, rfl⟩⟩⟩
  | map es => exact .inr ⟨es, hb.trans hv, hm⟩
  | loop r => exact ⟨r, hb.trans hv, hm⟩

theorem push_lt {w w' : World} {o : Obj} (hw : w'.heap = w.heap.push o) {b : Nat} (h : b < w.heap.size) : w'.heap[b]? = w.heap[b]? := by
  rw [hw, Array.getElem?_push, if_neg (by omega)]
theorem push_at {w w' : World} {o : Obj} (hw : w'.heap = w.heap.push o) : w'.heap[w.heap.size]? = some o := by
  rw [hw, Array.getElem?_push, if_pos rfl]

/-- A new block. -/
theorem View.alloc {V : View} (H : HR V) {w' : World} {o : Obj} (hw : w'.heap = V.w.heap.push o) {h : Nat} (hn : V.bl h = .none) (k : Blk) (hio : Wio V.w w' := by exact ⟨rfl, rfl, rfl⟩) :
    Ext V ⟨w', upd V.mu h V.w.heap.size, upd V.bl h k, V.hid⟩ := by
  refine ⟨⟨by simp [hw], fun b hb ho => ⟨push_lt hw hb, ?_⟩, fun j => ?_⟩, hio, fun b hb => ⟨hb, push_lt hw (H.hid b hb).1⟩⟩
  · rintro (hh | ⟨j, hl, hm⟩)
    · exact ho (.inl hh)
    simp only at hl hm
    by_cases hj : j = h
    · subst hj; rw [upd_same] at hm; omega
    · rw [upd_ne _ _ hj] at hl hm; exact ho (.inr ⟨j, hl, hm⟩)
  · by_cases hj : j = h
    · subst hj; unfold Turn; rw [hn]; trivial
    · exact .of_same (upd_ne _ _ hj) (upd_ne _ _ hj) (fun hl => push_lt hw (H.lt hl))
theorem HR.alloc {V : View} (H : HR V) {w' : World} {o : Obj} (hw : w'.heap = V.w.heap.push o) {h : Nat} (hn : V.bl h = .none) {k : Blk}
    (hk : ∀ V', V' = (⟨w', upd V.mu h V.w.heap.size, upd V.bl h k, V.hid⟩ : View) → Ext V V' → V'.w.heap[V.w.heap.size]? = some o → Holds V' V.w.heap.size k) (hio : Wio V.w w' := by exact ⟨rfl, rfl, rfl⟩) : HR ⟨w', upd V.mu h V.w.heap.size, upd V.bl h k, V.hid⟩ := by
  have E := View.alloc H hw hn k hio
  refine ⟨fun j => ?_, fun j j' hl hl' hm => ?_, fun b hb => ⟨by simp only [hw, Array.size_push]; have := (H.hid b hb).1; omega, fun j hl hm => ?_⟩⟩
  rotate_right
  · simp only at hl hm
    by_cases hj : j = h
    · subst hj; rw [upd_same] at hm; have := (H.hid b hb).1; omega
    · rw [upd_ne _ _ hj] at hl hm; exact (H.hid b hb).2 j hl hm
  · by_cases hj : j = h
    · subst hj
      simp only [upd_same]
      exact hk _ rfl E (push_at hw)
    · simp only [upd_ne _ _ hj]
      cases hb : V.bl j with
      | none => trivial
      | dead => trivial
      | _ => rw [← hb]; exact (H.holds j).mono E (push_lt hw (H.lt (by rw [hb]; trivial)))
  · simp only at hl hl' hm
    by_cases hj : j = h <;> by_cases hj' : j' = h
    · rw [hj, hj']
    · subst hj
      rw [upd_same, upd_ne _ _ hj'] at hm
      rw [upd_ne _ _ hj'] at hl'
      have := H.lt hl'
      omega
    · subst hj'
      rw [upd_same, upd_ne _ _ hj] at hm
      rw [upd_ne _ _ hj] at hl
      have := H.lt hl
      omega
    · rw [upd_ne _ _ hj] at hl hm
      rw [upd_ne _ _ hj'] at hl' hm
      exact H.inj _ _ hl hl' hm

/-- A block is written. -/
theorem View.write {V : View} (H : HR V) {w' : World} {h : Nat} (hl : (V.bl h).live) (hs : w'.heap.size = V.w.heap.size)
    (hw : ∀ b, b ≠ V.mu h → w'.heap[b]? = V.w.heap[b]?) (k : Blk) (ht : Turn V ⟨w', V.mu, upd V.bl h k, V.hid⟩ h) (hio : Wio V.w w' := by exact ⟨rfl, rfl, rfl⟩) : Ext V ⟨w', V.mu, upd V.bl h k, V.hid⟩ := by
  refine ⟨⟨by simp [hs], fun b hb ho => ⟨hw b (fun e => ho (.inr ⟨h, hl, e.symm⟩)), ?_⟩, fun j => ?_⟩, hio, fun b hb => ⟨hb, hw b (fun e => (H.hid b hb).2 h hl e.symm)⟩⟩
  · rintro (hh | ⟨j, hl', hm⟩)
    · exact ho (.inl hh)
    simp only at hl' hm
    by_cases hj : j = h
    · subst hj; exact ho (.inr ⟨j, hl, hm⟩)
    · rw [upd_ne _ _ hj] at hl'; exact ho (.inr ⟨j, hl', hm⟩)
  · by_cases hj : j = h
    · subst hj; exact ht
    · exact .of_same (upd_ne _ _ hj) rfl (fun hlj => hw _ (fun e => hj (H.inj _ _ hlj hl e)))
theorem HR.write {V : View} (H : HR V) {w' : World} {h : Nat} (hl : (V.bl h).live) (hs : w'.heap.size = V.w.heap.size)
    (hw : ∀ b, b ≠ V.mu h → w'.heap[b]? = V.w.heap[b]?) {k : Blk} (ht : Turn V ⟨w', V.mu, upd V.bl h k, V.hid⟩ h)
    (hk : ∀ V', V' = (⟨w', V.mu, upd V.bl h k, V.hid⟩ : View) → Ext V V' → Holds V' (V.mu h) k) (hio : Wio V.w w' := by exact ⟨rfl, rfl, rfl⟩) : HR ⟨w', V.mu, upd V.bl h k, V.hid⟩ := by
  have E := View.write H hl hs hw k ht hio
  refine ⟨fun j => ?_, fun j j' hl1 hl2 hm => ?_, fun b hb => ⟨by simp only [hs]; exact (H.hid b hb).1, fun j hl1 hm => ?_⟩⟩
  rotate_right
  · simp only at hl1 hm
    by_cases hj : j = h
    · subst hj; exact (H.hid b hb).2 j hl hm
    · rw [upd_ne _ _ hj] at hl1; exact (H.hid b hb).2 j hl1 hm
  · by_cases hj : j = h
    · subst hj
      simp only [upd_same]
      exact hk _ rfl E
    · simp only [upd_ne _ _ hj]
      cases hb : V.bl j with
      | none => trivial
      | dead => trivial
      | _ => rw [← hb]; exact (H.holds j).mono E (hw _ (fun e => hj (H.inj _ _ (by rw [hb]; trivial) hl e)))
  · simp only at hl1 hl2 hm
    have up : ∀ j, (upd V.bl h k j).live → (V.bl j).live := by
      intro j hj
      by_cases e : j = h
      · subst e; exact hl
      · rwa [upd_ne _ _ e] at hj
    exact H.inj _ _ (up _ hl1) (up _ hl2) hm

/-- A row has grown into a new block. -/
theorem View.grow {V : View} (H : HR V) {w' : World} {o : Obj} (hw : w'.heap = V.w.heap.push o) {h : Nat} {sz : Nat} {rows rows' : List (List Cell)} (hb : V.bl h = .arr sz rows) (hlen : rows.length < rows'.length) (hio : Wio V.w w' := by exact ⟨rfl, rfl, rfl⟩) :
    Ext V ⟨w', upd V.mu h V.w.heap.size, upd V.bl h (.arr sz rows'), V.hid⟩ := by
  refine ⟨⟨by simp [hw], fun b hlt ho => ⟨push_lt hw hlt, ?_⟩, fun j => ?_⟩, hio, fun b hb => ⟨hb, push_lt hw (H.hid b hb).1⟩⟩
  · rintro (hh | ⟨j, hl, hm⟩)
    · exact ho (.inl hh)
    simp only at hl hm
    by_cases hj : j = h
    · subst hj; rw [upd_same] at hm; omega
    · rw [upd_ne _ _ hj] at hl hm; exact ho (.inr ⟨j, hl, hm⟩)
  · by_cases hj : j = h
    · subst hj; unfold Turn; rw [hb]; exact .inr ⟨rows', upd_same _ _ _, .inr hlen⟩
    · exact .of_same (upd_ne _ _ hj) (upd_ne _ _ hj) (fun hl => push_lt hw (H.lt hl))
theorem HR.grow {V : View} (H : HR V) {w' : World} {o : Obj} (hw : w'.heap = V.w.heap.push o) {h : Nat} {sz : Nat} {rows rows' : List (List Cell)} (hb : V.bl h = .arr sz rows) (hlen : rows.length < rows'.length)
    (hk : ∀ V', V' = (⟨w', upd V.mu h V.w.heap.size, upd V.bl h (.arr sz rows'), V.hid⟩ : View) → Ext V V' → V'.w.heap[V.w.heap.size]? = some o → Holds V' V.w.heap.size (.arr sz rows')) (hio : Wio V.w w' := by exact ⟨rfl, rfl, rfl⟩) :
    HR ⟨w', upd V.mu h V.w.heap.size, upd V.bl h (.arr sz rows'), V.hid⟩ := by
  have E := View.grow H hw hb hlen hio
  refine ⟨fun j => ?_, fun j j' hl hl' hm => ?_, fun b hb => ⟨by simp only [hw, Array.size_push]; have := (H.hid b hb).1; omega, fun j hl hm => ?_⟩⟩
  rotate_right
  · simp only at hl hm
    by_cases hj : j = h
    · subst hj; rw [upd_same] at hm; have := (H.hid b hb).1; omega
    · rw [upd_ne _ _ hj] at hl hm; exact (H.hid b hb).2 j hl hm
  · by_cases hj : j = h
    · subst hj
      simp only [upd_same]
      exact hk _ rfl E (push_at hw)
    · simp only [upd_ne _ _ hj]
      cases hb : V.bl j with
      | none => trivial
      | dead => trivial
      | _ => rw [← hb]; exact (H.holds j).mono E (push_lt hw (H.lt (by rw [hb]; trivial)))
  · simp only at hl hl' hm
    by_cases hj : j = h <;> by_cases hj' : j' = h
    · rw [hj, hj']
    · subst hj
      rw [upd_same, upd_ne _ _ hj'] at hm
      rw [upd_ne _ _ hj'] at hl'
      have := H.lt hl'
      omega
    · subst hj'
      rw [upd_same, upd_ne _ _ hj] at hm
      rw [upd_ne _ _ hj] at hl
      have := H.lt hl
      omega
    · rw [upd_ne _ _ hj] at hl hm
      rw [upd_ne _ _ hj'] at hl' hm
      exact H.inj _ _ hl hl' hm

end Go.AM
