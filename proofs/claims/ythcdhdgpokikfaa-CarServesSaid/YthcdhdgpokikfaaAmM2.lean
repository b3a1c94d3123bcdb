/- The relation between the abstract machine's cells and heap and Go's memory. Operands, plain operations, cells of values. Reads and writes through pointers; slices as rows. Writes. New blocks; build; append. append. Slices of slices; every operation. Every operation. Every operation, the rest. Maps. aop is sound. Situations; what is inSc; what a call hands back. What one operation of a region does. How a call ends: its results, the rounds' blocks, what it hands back. What a call hands back. Calls; rounds; ranges over functions. -/
import Derived.Test.YthcdhdgpokikfaaAmM1
import Derived.Laws.AppendOwn
import Derived.Laws.Sem
import Derived.Laws.Rows
import Derived.Laws.CopyRow
import Derived.Laws.Append
import Derived.Laws.Tables
import Derived.Laws.MakeOwn
import Derived.RangeFuncRecord
import Derived.LoopNIn
namespace Go.AM

def Blk.live : Blk → Prop
  | .none | .dead => False
  | _ => True

structure View where
  w : World
  mu : Nat → Nat
  bl : Nat → Blk
  hid : Nat → Prop
/-- A block that may yet be written: by its handle, or hidden from the code that runs. -/
def own (V : View) (b : Nat) : Prop := V.hid b ∨ ∃ h, (V.bl h).live ∧ V.mu h = b
def rc (rows : List (List Cell)) (i j : Nat) : Option Cell := (rows[i]?).bind (·[j]?)

inductive RO (w : World) (own : Nat → Prop) : Cell → Value → Prop
  | sc {v : Value} : plainC v = true → RO w own (.sc v) v
  | e0 {A : Option Addr} : RO w own .e0 (.slice A 0 0)
  | fn {f : Fn} : RO w own (.fn f [] []) (.func f #[] #[])
  | nil {sz : Nat} {A : Option Addr} : RO w own (.lst sz []) (.slice A 0 0)
  | lst {sz : Nat} {rows : List (List Cell)} {a : Addr} {cap : Nat} (u : Nat → Nat → Value) : rows.length ≤ cap → a.spot = none → (∀ r ∈ rows, r.length = sz) →
      (∀ i j c, rc rows i j = some c → ¬ own a.block ∧ w.cell? ⟨a.block, a.off + (i * sz + j), none⟩ = some (u i j)) →
      (∀ i j c, rc rows i j = some c → RO w own c (u i j)) → RO w own (.lst sz rows) (.slice (some a) rows.length cap)

def SlOk (V : View) (h sz n lo len : Nat) (v : Value) : Prop :=
  lo + len ≤ n ∧ ∃ cap cells e fr, V.w.heap[V.mu h]? = some (.cells cells e fr) ∧ len ≤ cap ∧ (lo + cap) * sz ≤ cells.size ∧ v = .slice (some ⟨V.mu h, lo * sz, none⟩) len cap

inductive CR (V : View) : Cell → Value → Prop
  | ro {c : Cell} {v : Value} : RO V.w (own V) c v → CR V c v
  | sl {h n lo len : Nat} {A : Addr} {cap : Nat} : V.bl h ≠ .none → len ≤ cap →
      (∀ sz rows, V.bl h = .arr sz rows → n ≤ rows.length ∧ (rows.length = n → SlOk V h sz n lo len (.slice (some A) len cap))) → CR V (.sl h n lo len) (.slice (some A) len cap)
  | ep {a : Cell} {sz i off : Nat} {A : Addr} {n cap : Nat} : CR V a (.slice (some A) n cap) → A.spot = none →
      CR V (.ep a sz i off) (.pointer (some ⟨A.block, A.off + (i * sz + off), none⟩))
  | bp {h off b : Nat} : V.bl h ≠ .none → (∀ cs, V.bl h = .box cs → b = V.mu h) → CR V (.bp h off) (.pointer (some ⟨b, off, none⟩))
  | fn {f : Fn} {p q : List Cell} {p' q' : Array Value} : p.length = p'.size → q.length = q'.size →
      (∀ i c, p[i]? = some c → CR V c (p'.getD i undef)) → (∀ i c, q[i]? = some c → CR V c (q'.getD i undef)) → CR V (.fn f p q) (.func f p' q')
  | mp {h b : Nat} : V.bl h ≠ .none → (∀ es, V.bl h = .map es → b = V.mu h) → CR V (.mp h) (.map (some b))
  | yl {h b : Nat} : V.bl h ≠ .none → (∀ r, V.bl h = .loop r → b = V.mu h) → CR V (.yl h) (.func (.yield b) #[] #[])

inductive VR (V : View) : AV → Value → Prop
  | one {c : Cell} {v : Value} : CR V c v → VR V (.one c) v
  | agg {cs : List Cell} {vs : Array Value} : cs.length = vs.size → (∀ i c, cs[i]? = some c → CR V c (vs.getD i undef)) → VR V (.agg cs) (.agg vs)
  | tup {xs : List AV} {vs : Array Value} : xs.length = vs.size → (∀ i x, xs[i]? = some x → VR V x (vs.getD i undef)) → VR V (.tup xs) (.tuple vs)
  | und : VR V .und undef
  | bad (v : Value) : VR V .bad v

def ER (V : View) (env : Env) (tmps : Array Value) : Prop := ∀ t, VR V (env t) (tmps.getD t undef)

/-- What a block may turn into. -/
def Turn (V V' : View) (h : Nat) : Prop :=
  match V.bl h with
  | .none => True
  | .dead => V'.bl h = .dead
  | .box cs => V'.bl h = .dead ∨ (∃ cs', V'.bl h = .box cs' ∧ cs'.length = cs.length ∧ V'.mu h = V.mu h)
  | .arr sz rows => V'.bl h = .dead ∨ (∃ rows', V'.bl h = .arr sz rows' ∧
      ((rows'.length = rows.length ∧ V'.mu h = V.mu h ∧ ∀ cells e fr, V.w.heap[V.mu h]? = some (.cells cells e fr) → ∃ cells', V'.w.heap[V.mu h]? = some (.cells cells' e fr) ∧ cells'.size = cells.size) ∨ rows.length < rows'.length))
  | .map _ => V'.bl h = .dead ∨ (∃ es', V'.bl h = .map es' ∧ V'.mu h = V.mu h)
  | .loop _ => ∃ r', V'.bl h = .loop r' ∧ V'.mu h = V.mu h

structure Ext0 (V V' : View) : Prop where
  size : V.w.heap.size ≤ V'.w.heap.size
  keep : ∀ b, b < V.w.heap.size → ¬ own V b → V'.w.heap[b]? = V.w.heap[b]? ∧ ¬ own V' b
  turn : ∀ h, Turn V V' h
/-- The same, where only what holds cells is told of. -/
structure ExtW (V V' : View) : Prop where
  keepC : ∀ b C e fr, V.w.heap[b]? = some (.cells C e fr) → ¬ own V b → V'.w.heap[b]? = V.w.heap[b]? ∧ ¬ own V' b
  turn : ∀ h, Turn V V' h
theorem Ext0.toW {V V' : View} (E : Ext0 V V') : ExtW V V' := ⟨fun b _ _ _ h hn => E.keep b (Array.getElem?_eq_some_iff.1 h).1 hn, E.turn⟩
/-- What is outside the heap is as it was. -/
def Wio (w w' : World) : Prop := w'.os = w.os ∧ w'.output = w.output ∧ w'.tape = w.tape
theorem Wio.trans {a b c : World} (h : Wio a b) (g : Wio b c) : Wio a c := ⟨g.1.trans h.1, g.2.1.trans h.2.1, g.2.2.trans h.2.2⟩
structure Ext (V V' : View) : Prop extends Ext0 V V' where
  io : Wio V.w V'.w
  hidk : ∀ b, V.hid b → V'.hid b ∧ V'.w.heap[b]? = V.w.heap[b]?
theorem Ext.toW {V V' : View} (E : Ext V V') : ExtW V V' := E.toExt0.toW

theorem Ext.refl (V : View) : Ext V V := by
  refine ⟨⟨Nat.le_refl _, fun b _ hb => ⟨rfl, hb⟩, fun h => ?_⟩, ⟨rfl, rfl, rfl⟩, fun b hb => ⟨hb, rfl⟩⟩
  unfold Turn
  cases hb : V.bl h with
  | none => trivial
  | dead => rfl
  | box cs => exact .inr ⟨cs, rfl, rfl, rfl⟩
  | arr sz rows => exact .inr ⟨rows, rfl, .inl ⟨rfl, rfl, fun cells e fr h => ⟨cells, h, rfl⟩⟩⟩
  | map es => exact .inr ⟨es, rfl, rfl⟩
  | loop r => exact ⟨r, rfl, rfl⟩

theorem Turn.trans {V V1 V2 : View} {h : Nat} (a : Turn V V1 h) (b : Turn V1 V2 h) : Turn V V2 h := by
  unfold Turn at a ⊢
  cases hb : V.bl h with
  | none => trivial
  | dead =>
    rw [hb] at a
    simp only at a
    unfold Turn at b
    rw [a] at b
    exact b
  | box cs =>
    rw [hb] at a
    rcases a with a | ⟨cs', a, al, am⟩
    · unfold Turn at b; rw [a] at b; exact .inl b
    · unfold Turn at b; rw [a] at b
      rcases b with b | ⟨cs'', b, bl, bm⟩
      · exact .inl b
      · exact .inr ⟨cs'', b, by omega, by rw [bm, am]⟩
  | arr sz rows =>
    rw [hb] at a
    rcases a with a | ⟨rows', a, a2⟩
    · unfold Turn at b; rw [a] at b; exact .inl b
    · unfold Turn at b; rw [a] at b
      rcases b with b | ⟨rows'', b, b2⟩
      · exact .inl b
      · refine .inr ⟨rows'', b, ?_⟩
        rcases a2 with ⟨al, am, ac⟩ | al
        · rcases b2 with ⟨bl, bm, bc⟩ | bl
          · refine .inl ⟨by omega, by rw [bm, am], fun cells e fr hc => ?_⟩
            obtain ⟨c1, h1, s1⟩ := ac cells e fr hc
            rw [am] at bc
            obtain ⟨c2, h2, s2⟩ := bc c1 e fr h1
            exact ⟨c2, h2, by omega⟩
          · exact .inr (by omega)
        · rcases b2 with ⟨bl, bm, bc⟩ | bl
          · exact .inr (by omega)
          · exact .inr (by omega)
  | map es =>
    rw [hb] at a
    rcases a with a | ⟨es', a, am⟩
    · unfold Turn at b; rw [a] at b; exact .inl b
    · unfold Turn at b; rw [a] at b
      rcases b with b | ⟨es'', b, bm⟩
      · exact .inl b
      · exact .inr ⟨es'', b, by rw [bm, am]⟩
  | loop r =>
    rw [hb] at a
    obtain ⟨es', a, am⟩ := a
    unfold Turn at b; rw [a] at b
    obtain ⟨es'', b, bm⟩ := b
    exact ⟨es'', b, by rw [bm, am]⟩

theorem Ext.trans {V V1 V2 : View} (a : Ext V V1) (b : Ext V1 V2) : Ext V V2 := by
  refine ⟨⟨Nat.le_trans a.size b.size, fun x hx hn => ?_, fun h => (a.turn h).trans (b.turn h)⟩, a.io.trans b.io, fun x hx => ?_⟩
  rotate_left
  · obtain ⟨h1, e1⟩ := a.hidk x hx
    obtain ⟨h2, e2⟩ := b.hidk x h1
    exact ⟨h2, e2.trans e1⟩
  obtain ⟨e1, n1⟩ := a.keep x hx hn
  obtain ⟨e2, n2⟩ := b.keep x (Nat.lt_of_lt_of_le hx a.size) n1
  exact ⟨e2.trans e1, n2⟩

theorem Turn.ne_none {V V' : View} {h : Nat} (t : Turn V V' h) (hb : V.bl h ≠ .none) : V'.bl h ≠ .none := by
  unfold Turn at t
  cases hv : V.bl h with
  | none => exact absurd hv hb
  | dead => rw [hv] at t; simp only at t; rw [t]; simp
  | box cs => rw [hv] at t; rcases t with t | ⟨_, t, _⟩ <;> rw [t] <;> simp
  | arr sz rows => rw [hv] at t; rcases t with t | ⟨_, t, _⟩ <;> rw [t] <;> simp
  | map es => rw [hv] at t; rcases t with t | ⟨_, t, _⟩ <;> rw [t] <;> simp
  | loop r => rw [hv] at t; obtain ⟨_, t, _⟩ := t; rw [t]; simp

theorem cell_of_heap {w w' : World} {a : Addr} (h : w'.heap[a.block]? = w.heap[a.block]?) : w'.cell? a = w.cell? a := by simp [World.cell?, h]
theorem lt_of_cell {w : World} {a : Addr} {v : Value} (h : w.cell? a = some v) : a.block < w.heap.size := by
  unfold World.cell? at h
  cases hb : w.heap[a.block]? with
  | none => rw [hb] at h; cases h
  | some o => exact (Array.getElem?_eq_some_iff.1 hb).1

/-- What came in, and what was made and let go, stays. -/
theorem cells_of_cell {w : World} {a : Addr} {v : Value} (h : w.cell? a = some v) : ∃ C e fr, w.heap[a.block]? = some (.cells C e fr) := by
  unfold World.cell? at h
  cases hb : w.heap[a.block]? with
  | none => rw [hb] at h; cases h
  | some o => rw [hb] at h; cases o <;> first | exact ⟨_, _, _, rfl⟩ | cases h
theorem RO.mono {w w' : World} {own own' : Nat → Prop} (hk : ∀ b C e fr, w.heap[b]? = some (.cells C e fr) → ¬ own b → w'.heap[b]? = w.heap[b]? ∧ ¬ own' b) {c : Cell} {v : Value} (h : RO w own c v) : RO w' own' c v := by
  induction h with
  | sc h => exact .sc h
  | e0 => exact .e0
  | fn => exact .fn
  | nil => exact .nil
  | @lst sz rows a cap u h1 h2 h3 h4 h5 ih =>
    refine .lst u h1 h2 h3 (fun i j c hc => ?_) ih
    obtain ⟨hn, hv⟩ := h4 i j c hc
    obtain ⟨_, _, _, hC⟩ := cells_of_cell (a := ⟨a.block, _, none⟩) hv
    have hb := hk a.block _ _ _ hC hn
    exact ⟨hb.2, (cell_of_heap (a := ⟨a.block, _, none⟩) hb.1).trans hv⟩

theorem RO.one {w : World} {own : Nat → Prop} {c : Cell} {v : Value} (h : RO w own c v) : v.oneCell' = true := by
  cases h with
  | sc h => cases v <;> simp_all [plainC, Value.oneCell']
  | _ => rfl
theorem CR.one {V : View} {c : Cell} {v : Value} (h : CR V c v) : v.oneCell' = true := by
  cases h with
  | ro h => exact h.one
  | _ => rfl

theorem CR.mono0 {V V' : View} (E : ExtW V V') {c : Cell} {v : Value} (h : CR V c v) : CR V' c v := by
  induction h with
  | ro h => exact .ro (h.mono E.keepC)
  | @sl h n lo len A cap h1 h2 h3 =>
    refine .sl ((E.turn h).ne_none h1) h2 (fun sz rows' hb => ?_)
    have t := E.turn h
    unfold Turn at t
    cases hv : V.bl h with
    | none => exact absurd hv h1
    | dead => rw [hv] at t; simp only at t; rw [t] at hb; cases hb
    | box cs => rw [hv] at t; rcases t with t | ⟨_, t, _⟩ <;> rw [t] at hb <;> cases hb
    | map es => rw [hv] at t; rcases t with t | ⟨_, t, _⟩ <;> rw [t] at hb <;> cases hb
    | loop r => rw [hv] at t; obtain ⟨_, t, _⟩ := t; rw [t] at hb; cases hb
    | arr sz0 rows =>
      rw [hv] at t
      obtain ⟨hle, hok⟩ := h3 sz0 rows hv
      rcases t with t | ⟨rows'', t, t2⟩
      · rw [t] at hb; cases hb
      · rw [t] at hb
        injection hb with hsz hrows
        subst hsz hrows
        rcases t2 with ⟨tl, tm, tc⟩ | tl
        · refine ⟨by omega, fun hl => ?_⟩
          obtain ⟨h4, cap, cells, e, fr, h5, h6, h7, h8⟩ := hok (by omega)
          obtain ⟨cells', h9, h10⟩ := tc _ _ _ h5
          exact ⟨h4, cap, cells', e, fr, by rw [tm]; exact h9, h6, by omega, by rw [tm]; exact h8⟩
        · exact ⟨by omega, fun hl => absurd hl (by omega)⟩
  | ep _ h2 ih => exact .ep ih h2
  | @bp h off b h1 h3 =>
    refine .bp ((E.turn h).ne_none h1) (fun cs hb => ?_)
    have t := E.turn h
    unfold Turn at t
    cases hv : V.bl h with
    | none => exact absurd hv h1
    | dead => rw [hv] at t; simp only at t; rw [t] at hb; cases hb
    | arr sz rows => rw [hv] at t; rcases t with t | ⟨_, t, _⟩ <;> rw [t] at hb <;> cases hb
    | map es => rw [hv] at t; rcases t with t | ⟨_, t, _⟩ <;> rw [t] at hb <;> cases hb
    | loop r => rw [hv] at t; obtain ⟨_, t, _⟩ := t; rw [t] at hb; cases hb
    | box cs0 =>
      rw [hv] at t
      rcases t with t | ⟨_, t, _, tm⟩
      · rw [t] at hb; cases hb
      · rw [tm]; exact h3 cs0 hv
  | fn h1 h2 _ _ ih1 ih2 => exact .fn h1 h2 ih1 ih2
  | @mp h b h1 h3 =>
    refine .mp ((E.turn h).ne_none h1) (fun cs hb => ?_)
    have t := E.turn h
    unfold Turn at t
    cases hv : V.bl h with
    | none => exact absurd hv h1
    | dead => rw [hv] at t; simp only at t; rw [t] at hb; cases hb
    | arr sz rows => rw [hv] at t; rcases t with t | ⟨_, t, _⟩ <;> rw [t] at hb <;> cases hb
    | box es => rw [hv] at t; rcases t with t | ⟨_, t, _⟩ <;> rw [t] at hb <;> cases hb
    | loop r => rw [hv] at t; obtain ⟨_, t, _⟩ := t; rw [t] at hb; cases hb
    | map cs0 =>
      rw [hv] at t
      rcases t with t | ⟨_, t, tm⟩
      · rw [t] at hb; cases hb
      · rw [tm]; exact h3 cs0 hv
  | @yl h b h1 h3 =>
    refine .yl ((E.turn h).ne_none h1) (fun cs hb => ?_)
    have t := E.turn h
    unfold Turn at t
    cases hv : V.bl h with
    | none => exact absurd hv h1
    | dead => rw [hv] at t; simp only at t; rw [t] at hb; cases hb
    | arr sz rows => rw [hv] at t; rcases t with t | ⟨_, t, _⟩ <;> rw [t] at hb <;> cases hb
    | box es => rw [hv] at t; rcases t with t | ⟨_, t, _⟩ <;> rw [t] at hb <;> cases hb
    | map r => rw [hv] at t; rcases t with t | ⟨_, t, _⟩ <;> rw [t] at hb <;> cases hb
    | loop cs0 =>
      rw [hv] at t
      obtain ⟨_, t, tm⟩ := t
      rw [tm]; exact h3 cs0 hv

theorem CR.mono {V V' : View} (E : Ext V V') {c : Cell} {v : Value} (h : CR V c v) : CR V' c v := h.mono0 E.toW
theorem VR.mono0 {V V' : View} (E : ExtW V V') {x : AV} {v : Value} (h : VR V x v) : VR V' x v := by
  induction h with
  | one h => exact .one (h.mono0 E)
  | agg h1 h2 => exact .agg h1 (fun i c hc => (h2 i c hc).mono0 E)
  | tup h1 _ ih => exact .tup h1 ih
  | und => exact .und
  | bad v => exact .bad v
theorem VR.mono {V V' : View} (E : Ext V V') {x : AV} {v : Value} (h : VR V x v) : VR V' x v := h.mono0 E.toW
theorem ER.mono0 {V V' : View} (E : ExtW V V') {env : Env} {ts : Array Value} (h : ER V env ts) : ER V' env ts := fun t => (h t).mono0 E
theorem ER.mono {V V' : View} (E : Ext V V') {env : Env} {ts : Array Value} (h : ER V env ts) : ER V' env ts := fun t => (h t).mono E

/-! ### The heap -/
def jumpCode : Jump → Code
  | .ret => .ret
  | .exit id => .exit id
  | .goto l => .goto l

structure LR (V : View) (r : LoopRec) (L : Loop) : Prop where
  params : L.params.toList = r.params
  assign : L.assign = r.assign
  body : L.body = r.body
  env : ER V r.env L.tmps
  ok : r.params.all (fun t => decide (t < L.tmps.size)) = true ∧ codeOk L.tmps.size r.assign = true ∧ codeOk L.tmps.size r.body = true
  ready : r.over = false → r.ready = true → L.state = .ready ∧ L.pending = none ∧ r.pending = none
  done : ∀ j, r.over = false → r.ready = false → r.pending = some j → L.state = .done ∧ L.pending = some (jumpCode j)

/-- What a block's object holds. -/
def Holds (V : View) (b : Nat) : Blk → Prop
  | .none | .dead => True
  | .box cs => ∃ C e, V.w.heap[b]? = some (.cells C e (0, 0)) ∧ cs.length ≤ C.size ∧ ∀ i c, cs[i]? = some c → CR V c (C.getD i undef)
  | .arr sz rows => (∀ r ∈ rows, r.length = sz) ∧ ∃ C e, V.w.heap[b]? = some (.cells C e (0, 0)) ∧ rows.length * sz ≤ C.size ∧
      ∀ i j c, rc rows i j = some c → CR V c (C.getD (i * sz + j) undef)
  | .map es => ∃ (ents : Array MapEntry) (clock : Nat), V.w.heap[b]? = some (.map ents clock) ∧ (ents.size = es.length ∧ clock = es.length) ∧
      ∀ (i : Nat) (k : Value) (x : AV), es[i]? = some (k, x) → ∃ m : MapEntry, ents[i]? = some m ∧ (m.key = k ∧ m.born = i) ∧ VR V x m.val
  | .loop r => ∃ L, V.w.heap[b]? = some (.loop L) ∧ LR V r L

structure HR (V : View) : Prop where
  holds : ∀ h, Holds V (V.mu h) (V.bl h)
  inj : ∀ h h', (V.bl h).live → (V.bl h').live → V.mu h = V.mu h' → h = h'
  hid : ∀ b, V.hid b → b < V.w.heap.size ∧ ∀ h, (V.bl h).live → V.mu h ≠ b

theorem LR.mono {V V' : View} (E : ExtW V V') {r : LoopRec} {L : Loop} (h : LR V r L) : LR V' r L :=
  ⟨h.params, h.assign, h.body, h.env.mono0 E, h.ok, h.ready, h.done⟩

/-- A block whose object is as it was holds what it held. -/
theorem Holds.mono0 {V V' : View} (E : ExtW V V') {b b' : Nat} {k : Blk} (hb : V'.w.heap[b']? = V.w.heap[b]?) (h : Holds V b k) : Holds V' b' k := by
  cases k with
  | none => trivial
  | dead => trivial
  | box cs =>
    obtain ⟨C, e, h1, h2, h3⟩ := h
    exact ⟨C, e, hb.trans h1, h2, fun i c hc => (h3 i c hc).mono0 E⟩
  | arr sz rows =>
    obtain ⟨h0, C, e, h1, h2, h3⟩ := h
    exact ⟨h0, C, e, hb.trans h1, h2, fun i j c hc => (h3 i j c hc).mono0 E⟩
  | map es =>
    obtain ⟨ents, clock, h1, h2, h3⟩ := h
    exact ⟨ents, clock, hb.trans h1, h2, fun i k x hx => let ⟨m, h4, h5, h6⟩ := h3 i k x hx; ⟨m, h4, h5, h6.mono0 E⟩⟩
  | loop r =>
    obtain ⟨L, h1, h2⟩ := h
    exact ⟨L, hb.trans h1, h2.mono E⟩
theorem Holds.mono {V V' : View} (E : Ext V V') {b b' : Nat} {k : Blk} (hb : V'.w.heap[b']? = V.w.heap[b]?) (h : Holds V b k) : Holds V' b' k := h.mono0 E.toW hb

theorem HR.lt {V : View} (H : HR V) {h : Nat} (hl : (V.bl h).live) : V.mu h < V.w.heap.size := by
  have := H.holds h
  cases hb : V.bl h with
  | none => rw [hb] at hl; exact hl.elim
  | dead => rw [hb] at hl; exact hl.elim
  | box cs => rw [hb] at this; obtain ⟨_, _, h1, _⟩ := this; exact (Array.getElem?_eq_some_iff.1 h1).1
  | arr sz rows => rw [hb] at this; obtain ⟨_, _, _, h1, _⟩ := this; exact (Array.getElem?_eq_some_iff.1 h1).1
  | map es => rw [hb] at this; obtain ⟨_, _, h1, _⟩ := this; exact (Array.getElem?_eq_some_iff.1 h1).1
  | loop r => rw [hb] at this; obtain ⟨_, h1, _⟩ := this; exact (Array.getElem?_eq_some_iff.1 h1).1

theorem upd_same {α : Type} (f : Nat → α) (k : Nat) (v : α) : upd f k v k = v := by simp [upd]
theorem upd_ne {α : Type} (f : Nat → α) {k j : Nat} (v : α) (h : j ≠ k) : upd f k v j = f j := by simp [upd, h]

theorem HR.at {V : View} (H : HR V) {h : Nat} {k : Blk} (hb : V.bl h = k) : Holds V (V.mu h) k := hb ▸ H.holds h

/-- Nothing but the count of draws has turned. -/
theorem View.still {V : View} {w' : World} (he : w'.heap = V.w.heap) (hio : Wio V.w w' := by exact ⟨rfl, rfl, rfl⟩) : Ext V ⟨w', V.mu, V.bl, V.hid⟩ := by
  refine ⟨⟨by rw [he]; exact Nat.le_refl _, fun b _ hb => ⟨by rw [he], hb⟩, fun h => ?_⟩, hio, fun b hb => ⟨hb, by rw [he]⟩⟩
  unfold Turn
  cases hb : V.bl h with
  | none => trivial
  | dead => rfl
  | box cs => exact .inr ⟨cs, rfl, rfl, rfl⟩
  | arr sz rows => exact .inr ⟨rows, rfl, .inl ⟨rfl, rfl, fun cells e fr h => ⟨cells, by simp only [he]; exact h, rfl⟩⟩⟩
  | map es => exact .inr ⟨es, rfl, rfl⟩
  | loop r => exact ⟨r, rfl, rfl⟩
theorem HR.still {V : View} (H : HR V) {w' : World} (he : w'.heap = V.w.heap) (hio : Wio V.w w' := by exact ⟨rfl, rfl, rfl⟩) : HR ⟨w', V.mu, V.bl, V.hid⟩ :=
  ⟨fun h => (H.holds h).mono (View.still he hio) (by simp only [he]), H.inj, fun b hb => ⟨by simp only [he]; exact (H.hid b hb).1, (H.hid b hb).2⟩⟩

theorem Turn.of_same {V V' : View} {h : Nat} (hb : V'.bl h = V.bl h) (hm : V'.mu h = V.mu h)
    (hc : (V.bl h).live → V'.w.heap[V.mu h]? = V.w.heap[V.mu h]?) : Turn V V' h := by
  unfold Turn
  cases hv : V.bl h with
  | none => trivial
  | dead => exact hb.trans hv
  | box cs => exact .inr ⟨cs, hb.trans hv, rfl, hm⟩
  | arr sz rows => exact .inr ⟨rows, hb.trans hv, .inl ⟨rfl, hm, fun cells e fr h => ⟨cells, (hc (by rw [hv]; trivial)).trans h, rfl⟩⟩⟩
  | map es => exact .inr ⟨es, hb.trans hv, hm⟩
  | loop r => exact ⟨r, hb.trans hv, hm⟩

theorem push_lt {w w' : World} {o : Obj} (hw : w'.heap = w.heap.push o) {b : Nat} (h : b < w.heap.size) : w'.heap[b]? = w.heap[b]? := by
  rw [hw, Array.getElem?_push, if_neg (by omega)]
theorem push_at {w w' : World} {o : Obj} (hw : w'.heap = w.heap.push o) : w'.heap[w.heap.size]? = some o := by
  rw [hw, Array.getElem?_push, if_pos rfl]

/-- A new block. -/
theorem View.alloc {V : View} (H : HR V) {w' : World} {o : Obj} (hw : w'.heap = V.w.heap.push o) {h : Nat} (hn : V.bl h = .none) (k : Blk) (hio : Wio V.w w' := by exact ⟨rfl, rfl, rfl⟩) :
    Ext V ⟨w', upd V.mu h V.w.heap.size, upd V.bl h k, V.hid⟩ := by
  refine ⟨⟨by simp [hw], fun b hb ho => ⟨push_lt hw hb, ?_⟩, fun j => ?_⟩, hio, fun b hb => ⟨hb, push_lt hw (H.hid b hb).1⟩⟩
  · rintro (hh | ⟨j, hl, hm⟩)
    · exact ho (.inl hh)
    simp only at hl hm
    by_cases hj : j = h
    · subst hj; rw [upd_same] at hm; omega
    · rw [upd_ne _ _ hj] at hl hm; exact ho (.inr ⟨j, hl, hm⟩)
  · by_cases hj : j = h
    · subst hj; unfold Turn; rw [hn]; trivial
    · exact .of_same (upd_ne _ _ hj) (upd_ne _ _ hj) (fun hl => push_lt hw (H.lt hl))
theorem HR.alloc {V : View} (H : HR V) {w' : World} {o : Obj} (hw : w'.heap = V.w.heap.push o) {h : Nat} (hn : V.bl h = .none) {k : Blk}
    (hk : ∀ V', V' = (⟨w', upd V.mu h V.w.heap.size, upd V.bl h k, V.hid⟩ : View) → Ext V V' → V'.w.heap[V.w.heap.size]? = some o → Holds V' V.w.heap.size k) (hio : Wio V.w w' := by exact ⟨rfl, rfl, rfl⟩) : HR ⟨w', upd V.mu h V.w.heap.size, upd V.bl h k, V.hid⟩ := by
  have E := View.alloc H hw hn k hio
  refine ⟨fun j => ?_, fun j j' hl hl' hm => ?_, fun b hb => ⟨by simp only [hw, Array.size_push]; have := (H.hid b hb).1; omega, fun j hl hm => ?_⟩⟩
  rotate_right
  · simp only at hl hm
    by_cases hj : j = h
    · subst hj; rw [upd_same] at hm; have := (H.hid b hb).1; omega
    · rw [upd_ne _ _ hj] at hl hm; exact (H.hid b hb).2 j hl hm
  · by_cases hj : j = h
    · subst hj
      simp only [upd_same]
      exact hk _ rfl E (push_at hw)
    · simp only [upd_ne _ _ hj]
      cases hb : V.bl j with
      | none => trivial
      | dead => trivial
      | _ => rw [← hb]; exact (H.holds j).mono E (push_lt hw (H.lt (by rw [hb]; trivial)))
  · simp only at hl hl' hm
    by_cases hj : j = h <;> by_cases hj' : j' = h
    · rw [hj, hj']
    · subst hj
      rw [upd_same, upd_ne _ _ hj'] at hm
      rw [upd_ne _ _ hj'] at hl'
      have := H.lt hl'
      omega
    · subst hj'
      rw [upd_same, upd_ne _ _ hj] at hm
      rw [upd_ne _ _ hj] at hl
      have := H.lt hl
      omega
    · rw [upd_ne _ _ hj] at hl hm
      rw [upd_ne _ _ hj'] at hl' hm
      exact H.inj _ _ hl hl' hm

/-- A block is written. -/
theorem View.write {V : View} (H : HR V) {w' : World} {h : Nat} (hl : (V.bl h).live) (hs : w'.heap.size = V.w.heap.size)
    (hw : ∀ b, b ≠ V.mu h → w'.heap[b]? = V.w.heap[b]?) (k : Blk) (ht : Turn V ⟨w', V.mu, upd V.bl h k, V.hid⟩ h) (hio : Wio V.w w' := by exact ⟨rfl, rfl, rfl⟩) : Ext V ⟨w', V.mu, upd V.bl h k, V.hid⟩ := by
  refine ⟨⟨by simp [hs], fun b hb ho => ⟨hw b (fun e => ho (.inr ⟨h, hl, e.symm⟩)), ?_⟩, fun j => ?_⟩, hio, fun b hb => ⟨hb, hw b (fun e => (H.hid b hb).2 h hl e.symm)⟩⟩
  · rintro (hh | ⟨j, hl', hm⟩)
    · exact ho (.inl hh)
    simp only at hl' hm
    by_cases hj : j = h
    · subst hj; exact ho (.inr ⟨j, hl, hm⟩)
    · rw [upd_ne _ _ hj] at hl'; exact ho (.inr ⟨j, hl', hm⟩)
  · by_cases hj : j = h
    · subst hj; exact ht
    · exact .of_same (upd_ne _ _ hj) rfl (fun hlj => hw _ (fun e => hj (H.inj _ _ hlj hl e)))
theorem HR.write {V : View} (H : HR V) {w' : World} {h : Nat} (hl : (V.bl h).live) (hs : w'.heap.size = V.w.heap.size)
    (hw : ∀ b, b ≠ V.mu h → w'.heap[b]? = V.w.heap[b]?) {k : Blk} (ht : Turn V ⟨w', V.mu, upd V.bl h k, V.hid⟩ h)
    (hk : ∀ V', V' = (⟨w', V.mu, upd V.bl h k, V.hid⟩ : View) → Ext V V' → Holds V' (V.mu h) k) (hio : Wio V.w w' := by exact ⟨rfl, rfl, rfl⟩) : HR ⟨w', V.mu, upd V.bl h k, V.hid⟩ := by
  have E := View.write H hl hs hw k ht hio
  refine ⟨fun j => ?_, fun j j' hl1 hl2 hm => ?_, fun b hb => ⟨by simp only [hs]; exact (H.hid b hb).1, fun j hl1 hm => ?_⟩⟩
  rotate_right
  · simp only at hl1 hm
    by_cases hj : j = h
    · subst hj; exact (H.hid b hb).2 j hl hm
    · rw [upd_ne _ _ hj] at hl1; exact (H.hid b hb).2 j hl1 hm
  · by_cases hj : j = h
    · subst hj
      simp only [upd_same]
      exact hk _ rfl E
    · simp only [upd_ne _ _ hj]
      cases hb : V.bl j with
      | none => trivial
      | dead => trivial
      | _ => rw [← hb]; exact (H.holds j).mono E (hw _ (fun e => hj (H.inj _ _ (by rw [hb]; trivial) hl e)))
  · simp only at hl1 hl2 hm
    have up : ∀ j, (upd V.bl h k j).live → (V.bl j).live := by
      intro j hj
      by_cases e : j = h
      · subst e; exact hl
      · rwa [upd_ne _ _ e] at hj
    exact H.inj _ _ (up _ hl1) (up _ hl2) hm

/-- A row has grown into a new block. -/
theorem View.grow {V : View} (H : HR V) {w' : World} {o : Obj} (hw : w'.heap = V.w.heap.push o) {h : Nat} {sz : Nat} {rows rows' : List (List Cell)} (hb : V.bl h = .arr sz rows) (hlen : rows.length < rows'.length) (hio : Wio V.w w' := by exact ⟨rfl, rfl, rfl⟩) :
    Ext V ⟨w', upd V.mu h V.w.heap.size, upd V.bl h (.arr sz rows'), V.hid⟩ := by
  refine ⟨⟨by simp [hw], fun b hlt ho => ⟨push_lt hw hlt, ?_⟩, fun j => ?_⟩, hio, fun b hb => ⟨hb, push_lt hw (H.hid b hb).1⟩⟩
  · rintro (hh | ⟨j, hl, hm⟩)
    · exact ho (.inl hh)
    simp only at hl hm
    by_cases hj : j = h
    · subst hj; rw [upd_same] at hm; omega
    · rw [upd_ne _ _ hj] at hl hm; exact ho (.inr ⟨j, hl, hm⟩)
  · by_cases hj : j = h
    · subst hj; unfold Turn; rw [hb]; exact .inr ⟨rows', upd_same _ _ _, .inr hlen⟩
    · exact .of_same (upd_ne _ _ hj) (upd_ne _ _ hj) (fun hl => push_lt hw (H.lt hl))
theorem HR.grow {V : View} (H : HR V) {w' : World} {o : Obj} (hw : w'.heap = V.w.heap.push o) {h : Nat} {sz : Nat} {rows rows' : List (List Cell)} (hb : V.bl h = .arr sz rows) (hlen : rows.length < rows'.length)
    (hk : ∀ V', V' = (⟨w', upd V.mu h V.w.heap.size, upd V.bl h (.arr sz rows'), V.hid⟩ : View) → Ext V V' → V'.w.heap[V.w.heap.size]? = some o → Holds V' V.w.heap.size (.arr sz rows')) (hio : Wio V.w w' := by exact ⟨rfl, rfl, rfl⟩) :
    HR ⟨w', upd V.mu h V.w.heap.size, upd V.bl h (.arr sz rows'), V.hid⟩ := by
  have E := View.grow H hw hb hlen hio
  refine ⟨fun j => ?_, fun j j' hl hl' hm => ?_, fun b hb => ⟨by simp only [hw, Array.size_push]; have := (H.hid b hb).1; omega, fun j hl hm => ?_⟩⟩
  rotate_right
  · simp only at hl hm
    by_cases hj : j = h
    · subst hj; rw [upd_same] at hm; have := (H.hid b hb).1; omega
    · rw [upd_ne _ _ hj] at hl hm; exact (H.hid b hb).2 j hl hm
  · by_cases hj : j = h
    · subst hj
      simp only [upd_same]
      exact hk _ rfl E (push_at hw)
    · simp only [upd_ne _ _ hj]
      cases hb : V.bl j with
      | none => trivial
      | dead => trivial
      | _ => rw [← hb]; exact (H.holds j).mono E (push_lt hw (H.lt (by rw [hb]; trivial)))
  · simp only at hl hl' hm
    by_cases hj : j = h <;> by_cases hj' : j' = h
    · rw [hj, hj']
    · subst hj
      rw [upd_same, upd_ne _ _ hj'] at hm
      rw [upd_ne _ _ hj'] at hl'
      have := H.lt hl'
      omega
    · subst hj'
      rw [upd_same, upd_ne _ _ hj] at hm
      rw [upd_ne _ _ hj] at hl
      have := H.lt hl
      omega
    · rw [upd_ne _ _ hj] at hl hm
      rw [upd_ne _ _ hj'] at hl' hm
      exact H.inj _ _ hl hl' hm

end Go.AM

namespace Go.AM

theorem ev_run {α : Type} {P : Program} {s : Sem α} {a : α} (h : ev P s = some a) (w : World) : s.run P w = .ok a w := by
  induction s with
  | pure b => simp only [ev] at h; injection h with h; subst h; rfl
  | program k ih => exact ih P h
  | mark m k ih => exact ih h
  | _ => simp [ev] at h

theorem evo_sound {V : View} {env : Env} {a : Act} (h : ER V env a.tmps) (x : Operand) : VR V (evo env x) (a.eval x) := by
  cases x with
  | tmp t => exact h t
  | const v =>
    simp only [evo]
    split
    · rename_i hp; exact .one (.ro (.sc hp))
    · exact .bad _
  | global g => exact .bad _
  | func f => exact .one (.ro .fn)

theorem cells_of_one {v : Value} (h : v.oneCell' = true) : v.cells = #[v] := by
  cases v <;> first | rfl | (simp [Value.oneCell'] at h)

theorem cell_sound {V : View} {x : AV} {v : Value} {c : Cell} (h : VR V x v) (hc : x.cell = some c) : CR V c v := by
  cases h with
  | one h => simp only [AV.cell] at hc; injection hc with hc; subst hc; exact h
  | _ => simp [AV.cell] at hc

structure CSR (V : View) (cs : List Cell) (vs : Array Value) : Prop where
  len : cs.length = vs.size
  get : ∀ i c, cs[i]? = some c → CR V c (vs.getD i undef)
theorem CSR.mono {V V' : View} (E : Ext V V') {cs : List Cell} {vs : Array Value} (h : CSR V cs vs) : CSR V' cs vs := ⟨h.len, fun i c hc => (h.get i c hc).mono E⟩
theorem CSR.one1 {V : View} {cs : List Cell} {vs : Array Value} (h : CSR V cs vs) : ∀ v ∈ vs.toList, v.oneCell' = true := by
  intro v hv
  obtain ⟨i, hi, rfl⟩ := List.getElem_of_mem hv
  have hlt : i < cs.length := by have := h.len; simp at hi; omega
  have := h.get i _ (List.getElem?_eq_getElem hlt)
  have e : vs.getD i undef = vs.toList[i] := by
    simp at hi
    simp [Array.getD, hi]
  rw [e] at this
  exact this.one

theorem cells_sound {V : View} {x : AV} {v : Value} {cs : List Cell} (h : VR V x v) (hc : x.cells = some cs) : CSR V cs v.cells := by
  cases h with
  | one h =>
    simp only [AV.cells] at hc
    injection hc with hc
    subst hc
    rw [cells_of_one h.one]
    refine ⟨rfl, fun i c hc => ?_⟩
    cases i with
    | zero => simp at hc; subst hc; exact h
    | succ i => simp at hc
  | agg h1 h2 => simp only [AV.cells] at hc; injection hc with hc; subst hc; exact ⟨h1, h2⟩
  | _ => simp [AV.cells] at hc

theorem toV_cell {V : View} {c : Cell} {v u : Value} (h : CR V c v) (hc : c.toV = some u) : v = u := by
  cases c with
  | sc x =>
    simp only [Cell.toV] at hc
    injection hc with hc
    subst hc
    cases h with
    | ro h => cases h with | sc _ => rfl
  | _ => simp [Cell.toV] at hc

theorem mapM_get {α β : Type} {f : α → Option β} : ∀ {l : List α} {r : List β}, l.mapM f = some r → r.length = l.length ∧ ∀ (i : Nat) (x : α), l[i]? = some x → ∃ y, f x = some y ∧ r[i]? = some y := by
  intro l
  induction l with
  | nil => intro r h; simp at h; subst h; exact ⟨rfl, fun i x hx => by simp at hx⟩
  | cons a l ih =>
    intro r h
    simp only [List.mapM_cons, Option.bind_eq_bind, Option.pure_def] at h
    obtain ⟨y, hy, h⟩ := Option.bind_eq_some_iff.1 h
    obtain ⟨ys, hys, h⟩ := Option.bind_eq_some_iff.1 h
    injection h with h
    subst h
    obtain ⟨h1, h2⟩ := ih hys
    refine ⟨by simp [h1], fun i x hx => ?_⟩
    cases i with
    | zero => simp at hx; subst hx; exact ⟨y, hy, rfl⟩
    | succ i => simp at hx; simpa using h2 i x hx

theorem toVs_get : ∀ {vs : List AV} {l : List Value}, AV.toVs vs = some l → l.length = vs.length ∧ ∀ (i : Nat) (x : AV), vs[i]? = some x → ∃ y, x.toV = some y ∧ l[i]? = some y := by
  intro vs
  induction vs with
  | nil => intro l h; simp [AV.toVs] at h; subst h; exact ⟨rfl, fun i x hx => by simp at hx⟩
  | cons v r ih =>
    intro l h
    simp only [AV.toVs] at h
    split at h
    · rename_i x l' hx hl
      injection h with h
      subst h
      obtain ⟨h1, h2⟩ := ih hl
      refine ⟨by simp [h1], fun i y hy => ?_⟩
      cases i with
      | zero => simp at hy; subst hy; exact ⟨x, hx, rfl⟩
      | succ i => simp at hy; simpa using h2 i y hy
    · cases h

theorem arr_ext {vs : Array Value} {l : List Value} (hl : vs.size = l.length) (h : ∀ i y, l[i]? = some y → vs.getD i undef = y) : vs = l.toArray := by
  apply Array.ext
  · simpa using hl
  · intro i h1 h2
    have := h i (l[i]'(by simpa using h2)) (List.getElem?_eq_getElem _)
    simp [Array.getD, h1] at this
    simpa using this

theorem toV_sound {V : View} {x : AV} {v : Value} (h : VR V x v) : ∀ u, x.toV = some u → v = u := by
  induction h with
  | one h => intro u hu; exact toV_cell h hu
  | @agg cs vs h1 h2 =>
    intro u hu
    simp only [AV.toV, Option.map_eq_some_iff] at hu
    obtain ⟨l, hl, rfl⟩ := hu
    obtain ⟨h3, h4⟩ := mapM_get hl
    congr 1
    refine arr_ext (by omega) (fun i y hy => ?_)
    have hlt : i < cs.length := by have := (List.getElem?_eq_some_iff.1 hy).1; omega
    obtain ⟨y', hy', hy2⟩ := h4 i _ (List.getElem?_eq_getElem hlt)
    rw [hy] at hy2
    injection hy2 with hy2
    subst hy2
    exact toV_cell (h2 i _ (List.getElem?_eq_getElem hlt)) hy'
  | @tup xs vs h1 h2 ih =>
    intro u hu
    simp only [AV.toV, Option.map_eq_some_iff] at hu
    obtain ⟨l, hl, rfl⟩ := hu
    obtain ⟨h3, h4⟩ := toVs_get hl
    congr 1
    refine arr_ext (by omega) (fun i y hy => ?_)
    have hlt : i < xs.length := by have := (List.getElem?_eq_some_iff.1 hy).1; omega
    obtain ⟨y', hy', hy2⟩ := h4 i _ (List.getElem?_eq_getElem hlt)
    rw [hy] at hy2
    injection hy2 with hy2
    subst hy2
    exact ih i _ (List.getElem?_eq_getElem hlt) _ hy'
  | und => intro u hu; simp [AV.toV] at hu
  | bad v => intro u hu; simp [AV.toV] at hu

theorem ofPlain_sound {V : View} {v : Value} {c : Cell} (h : ofPlain v = some c) : CR V c v := by
  unfold ofPlain at h
  split at h
  · rename_i hp; injection h with h; subst h; exact .ro (.sc hp)
  · cases h
theorem getD_of_list {vs : Array Value} {i : Nat} {y : Value} (h : vs.toList[i]? = some y) : vs.getD i undef = y := by
  have hlt := (List.getElem?_eq_some_iff.1 h).1
  have hx : i < vs.size := by simpa using hlt
  simp [Array.getD, hx]
  simpa [hx] using h
theorem ofPlains_sound {V : View} {vs : Array Value} {cs : List Cell} (h : vs.toList.mapM ofPlain = some cs) : CSR V cs vs := by
  obtain ⟨h1, h2⟩ := mapM_get h
  refine ⟨by simpa using h1, fun i c hc => ?_⟩
  have hlt : i < vs.toList.length := by have := (List.getElem?_eq_some_iff.1 hc).1; omega
  obtain ⟨y, hy, hy2⟩ := h2 i _ (List.getElem?_eq_getElem hlt)
  rw [hc] at hy2
  injection hy2 with hy2
  subst hy2
  rw [getD_of_list (List.getElem?_eq_getElem hlt)]
  exact ofPlain_sound hy
theorem ofV1_sound {V : View} {v : Value} {x : AV} (h : ofV1 v = some x) : VR V x v := by
  unfold ofV1 at h
  split at h
  · obtain ⟨cs, hcs, rfl⟩ := Option.map_eq_some_iff.1 h
    have := ofPlains_sound (V := V) hcs
    exact .agg this.len this.get
  · obtain ⟨c, hc, rfl⟩ := Option.map_eq_some_iff.1 h
    exact .one (ofPlain_sound hc)
theorem ofV_sound {V : View} {v : Value} {x : AV} (h : ofV v = some x) : VR V x v := by
  unfold ofV at h
  split at h
  · rename_i vs
    obtain ⟨xs, hxs, rfl⟩ := Option.map_eq_some_iff.1 h
    obtain ⟨h1, h2⟩ := mapM_get hxs
    refine .tup (by simpa using h1) (fun i c hc => ?_)
    have hlt : i < vs.toList.length := by have := (List.getElem?_eq_some_iff.1 hc).1; omega
    obtain ⟨y, hy, hy2⟩ := h2 i _ (List.getElem?_eq_getElem hlt)
    rw [hc] at hy2
    injection hy2 with hy2
    subst hy2
    rw [getD_of_list (List.getElem?_eq_getElem hlt)]
    exact ofV1_sound hy
  · exact ofV1_sound h

/-! ### What an operation is to do -/
def bapp (bl : Nat → Blk) : Option (Nat × Blk) → (Nat → Blk)
  | none => bl
  | some (h, b) => upd bl h b
def OpOk (P : Program) (V : View) (s : Sem Next) (v : AV) (d : Option (Nat × Blk)) : Prop :=
  ∃ r w' mu' v', s.run P V.w = .ok r w' ∧ (r = .value v' ∨ (r = .skip ∧ v' = undef)) ∧ Ext V ⟨w', mu', bapp V.bl d, V.hid⟩ ∧ HR ⟨w', mu', bapp V.bl d, V.hid⟩ ∧ VR ⟨w', mu', bapp V.bl d, V.hid⟩ v v' ∧
    ∀ j, (∀ b, d ≠ some (j, b)) → mu' j = V.mu j

theorem OpOk.value {P : Program} {V : View} (H : HR V) {s : Sem Next} {v : AV} {v' : Value} (hs : s.run P V.w = .ok (.value v') V.w) (hv : VR V v v') : OpOk P V s v none :=
  ⟨_, V.w, V.mu, v', hs, .inl rfl, Ext.refl V, H, hv, fun _ _ => rfl⟩

theorem all_get {α : Type} {l : List α} {p : α → Bool} (h : l.all p = true) : ∀ x ∈ l, p x = true := by simpa using h

theorem plainOp_sound {P : Program} {V : View} (H : HR V) {env : Env} {a : Act} (R : ER V env a.tmps) {o : Oper} (hs : ∀ cs b, o.op ≠ .select cs b) {v : AV} {d : Option (Nat × Blk)} (h : plainOp P env o = some (v, d)) :
    OpOk P V (execOp a.eval o) v d := by
  unfold plainOp at h
  split at h
  · rename_i hall
    split at h
    · rename_i u hev
      obtain ⟨x, hx, he⟩ := Option.map_eq_some_iff.1 h
      injection he with he1 he2
      subst he1 he2
      have hc : execOp a.eval o = execOp (fun x => ((evo env x).toV).getD undef) o := by
        refine execOp_congr o hs (fun x hx => ?_)
        have h1 := all_get hall x (by simpa using hx)
        obtain ⟨u', hu'⟩ := Option.isSome_iff_exists.1 h1
        rw [hu', Option.getD_some]
        exact toV_sound (evo_sound R x) _ hu'
      exact .value H (hc ▸ ev_run hev V.w) (ofV_sound hx)
    · cases h
  · cases h

end Go.AM

namespace Go.AM

theorem getD_lt {C : Array Value} {i : Nat} (h : i < C.size) : C[i]? = some (C.getD i undef) := by simp [Array.getD, h]
theorem cell_block {w : World} {b k : Nat} {C : Array Value} {e : TypeId} {fr : Nat × Nat} (h : w.heap[b]? = some (.cells C e fr)) (hk : k < C.size) : w.cell? ⟨b, k, none⟩ = some (C.getD k undef) := by
  have e : w.cell? ⟨b, k, none⟩ = C[k]? := by simp [World.cell?, h]
  rw [e, getD_lt hk]

/-- What a slice reads as. -/
structure RowsAt (V : View) (sz : Nat) (v : Value) (rows : List (List Cell)) (A : Option Addr) (cap : Nat) : Prop where
  val : v = .slice A rows.length cap
  cap_le : rows.length ≤ cap
  wid : ∀ r ∈ rows, r.length = sz
  spot : ∀ ad, A = some ad → rows ≠ [] → ad.spot = none
  addr : rows ≠ [] → ∃ ad, A = some ad
  cell : ∀ ad, A = some ad → ∀ i j c, rc rows i j = some c → ∃ u, V.w.cell? ⟨ad.block, ad.off + (i * sz + j), none⟩ = some u ∧ CR V c u

theorem mul_lt_of {a b n sz : Nat} (h : a < n) (hb : b < sz) : a * sz + b < n * sz := by
  have : (a + 1) * sz ≤ n * sz := Nat.mul_le_mul_right _ h
  rw [Nat.add_mul] at this
  omega

theorem rc_some {rows : List (List Cell)} {i j : Nat} {c : Cell} (h : rc rows i j = some c) : ∃ r, rows[i]? = some r ∧ r[j]? = some c := by
  unfold rc at h
  exact Option.bind_eq_some_iff.1 h

theorem rc_sub {rows : List (List Cell)} {lo len i j : Nat} {c : Cell} (h : rc ((rows.drop lo).take len) i j = some c) : i < len ∧ rc rows (lo + i) j = some c := by
  obtain ⟨r, h1, h2⟩ := rc_some h
  rw [List.getElem?_take] at h1
  split at h1
  · rename_i hi
    rw [List.getElem?_drop] at h1
    exact ⟨hi, by unfold rc; rw [h1]; exact h2⟩
  · cases h1

theorem rowsOf_sound {V : View} (H : HR V) {c : Cell} {v : Value} (h : CR V c v) {sz : Nat} {rows : List (List Cell)} (hr : rowsOf V.bl sz c = some rows) : ∃ A cap, RowsAt V sz v rows A cap := by
  cases h with
  | ro h =>
    cases h with
    | @sc v hp =>
      unfold rowsOf at hr
      split at hr <;> first | (rename_i he; cases he) | (cases hr)
      injection hr with hr
      subst hr
      exact ⟨none, 0, rfl, Nat.le_refl _, (fun r hr => by simp at hr), (fun ad hA => by cases hA), (fun h => absurd rfl h), (fun ad hA => by cases hA)⟩
    | @e0 A =>
      simp only [rowsOf] at hr
      injection hr with hr
      subst hr
      exact ⟨A, 0, rfl, Nat.le_refl _, fun r hr => by simp at hr, fun ad _ h => absurd rfl h, fun h => absurd rfl h, fun ad hA i j c hc => by simp [rc] at hc⟩
    | fn => simp [rowsOf] at hr
    | @nil _ A =>
      simp only [rowsOf] at hr
      split at hr
      · injection hr with hr
        subst hr
        exact ⟨A, 0, rfl, Nat.le_refl _, fun r hr => by simp at hr, fun ad _ h => absurd rfl h, fun h => absurd rfl h, fun ad hA i j c hc => by simp [rc] at hc⟩
      · cases hr
    | @lst sz' rows' a cap u h1 h2 h3 h4 h5 =>
      simp only [rowsOf] at hr
      split at hr
      · rename_i hs
        injection hr with hr
        subst hr hs
        refine ⟨some a, cap, rfl, h1, h3, fun ad hA _ => by injection hA with hA; subst hA; exact h2, fun _ => ⟨a, rfl⟩, fun ad hA i j c hc => ?_⟩
        injection hA with hA
        subst hA
        exact ⟨_, (h4 i j c hc).2, .ro (h5 i j c hc)⟩
      · cases hr
  | @sl h n lo len A0 cap0 h1 h2 h3 =>
    unfold rowsOf at hr
    simp only at hr
    split at hr
    · rename_i sz' rows' hb
      split at hr
      · rename_i hc
        obtain ⟨hs, hn⟩ := hc
        subst hs
        injection hr with hr
        obtain ⟨_, hok⟩ := h3 _ _ hb
        obtain ⟨hlo, cap, cells, e, fr, h5, h6, h7, hv⟩ := hok hn
        injection hv with hv1 hv2 hv3
        injection hv1 with hv1
        subst hv1 hv3
        have hl : rows.length = len := by rw [← hr]; simp; omega
        obtain ⟨hw, C, e', hh, hsz, hcell⟩ := H.at hb
        rw [hh] at h5
        injection h5 with h5
        injection h5 with h5 h5e h5f
        subst h5
        refine ⟨some ⟨V.mu h, lo * sz', none⟩, cap0, by rw [hl], by omega, fun r hr' => ?_, fun ad hA _ => by injection hA with hA; subst hA; rfl, fun _ => ⟨_, rfl⟩, fun ad hA i j c hc => ?_⟩
        · rw [← hr] at hr'
          exact hw r (List.mem_of_mem_drop (List.mem_of_mem_take hr'))
        · injection hA with hA
          subst hA
          rw [← hr] at hc
          obtain ⟨hi, hc'⟩ := rc_sub hc
          obtain ⟨r, hr1, hr2⟩ := rc_some hc'
          have hlen := hw r (List.mem_of_getElem? hr1)
          have hj := (List.getElem?_eq_some_iff.1 hr2).1
          have hlt := (List.getElem?_eq_some_iff.1 hr1).1
          have hk : (lo + i) * sz' + j < C.size := Nat.lt_of_lt_of_le (mul_lt_of hlt (by omega)) hsz
          refine ⟨_, ?_, hcell _ _ _ hc'⟩
          have he : lo * sz' + (i * sz' + j) = (lo + i) * sz' + j := by rw [Nat.add_mul]; omega
          simp only [he]
          exact cell_block hh hk
      · cases hr
    · cases hr
  | _ => simp [rowsOf] at hr

/-- The length that a cell tells. -/
theorem lenOf_sound {V : View} {c : Cell} {v : Value} (h : CR V c v) {n : Nat} (hn : lenOf V.bl c = some n) :
    (∃ A cap, v = .slice A n cap ∧ n ≤ cap) ∨ (v = .map none ∧ n = 0 ∧ c = .sc v) ∨ (∃ s, v = .string s ∧ n = s.size ∧ c = .sc v) ∨ (∃ hh es, c = .mp hh ∧ V.bl hh = .map es ∧ v = .map (some (V.mu hh)) ∧ n = es.length) := by
  cases h with
  | ro h =>
    cases h with
    | @sc v hp =>
      unfold lenOf at hn
      split at hn <;> first
        | (rename_i he; injection he with he; subst he; injection hn with hn; subst hn; first | exact .inl ⟨none, 0, rfl, Nat.le_refl _⟩ | exact .inr (.inl ⟨rfl, rfl, rfl⟩) | exact .inr (.inr (.inl ⟨_, rfl, rfl, rfl⟩)))
        | (rename_i he; cases he)
        | (cases hn)
    | @e0 A =>
      simp only [lenOf] at hn
      injection hn with hn
      subst hn
      exact .inl ⟨A, 0, rfl, Nat.le_refl _⟩
    | fn => simp [lenOf] at hn
    | @nil _ A =>
      simp only [lenOf] at hn
      injection hn with hn
      subst hn
      exact .inl ⟨A, 0, rfl, Nat.le_refl _⟩
    | @lst sz' rows' a cap u h1 h2 h3 h4 h5 =>
      simp only [lenOf] at hn
      injection hn with hn
      subst hn
      exact .inl ⟨_, _, rfl, h1⟩
  | @sl h n' lo len A cap h1 h2 h3 =>
    simp only [lenOf] at hn
    injection hn with hn
    subst hn
    exact .inl ⟨_, _, rfl, h2⟩
  | @mp h b h1 h3 =>
    unfold lenOf at hn
    simp only at hn
    split at hn
    · rename_i es hb
      injection hn with hn
      have := h3 _ hb
      subst this
      exact .inr (.inr (.inr ⟨h, es, rfl, hb, rfl, hn.symm⟩))
    · cases hn
  | _ => simp [lenOf] at hn

/-- Cells that are read through a pointer. -/
theorem rdPtr_sound {V : View} (H : HR V) {p : Cell} {v : Value} (h : CR V p v) {n : Nat} {cs : List Cell} (hr : rdPtr V.bl n p = some cs) :
    ∃ ad, v = .pointer (some ad) ∧ ad.spot = none ∧ cs.length = n ∧ ∀ i c, cs[i]? = some c → ∃ u, V.w.cell? ⟨ad.block, ad.off + i, none⟩ = some u ∧ CR V c u := by
  cases h with
  | @bp h off b h1 h3 =>
    unfold rdPtr at hr
    simp only at hr
    split at hr
    · rename_i cs0 hb
      split at hr
      · rename_i hle
        injection hr with hr
        have hv := h3 _ hb
        subst hv
        obtain ⟨C, e, hh, hl, hc⟩ := H.at hb
        refine ⟨_, rfl, rfl, by rw [← hr]; simp; omega, fun i c hi => ?_⟩
        rw [← hr, List.getElem?_take] at hi
        split at hi
        · rename_i hin
          rw [List.getElem?_drop] at hi
          exact ⟨_, cell_block hh (show off + i < C.size by omega), hc _ _ hi⟩
        · cases hi
      · cases hr
    · cases hr
  | @ep a sz i off A n' cap h1 h2 =>
    simp only [rdPtr] at hr
    split at hr
    · rename_i rows hrow
      split at hr
      · rename_i r hri
        split at hr
        · rename_i hle
          injection hr with hr
          obtain ⟨A', cap', R⟩ := rowsOf_sound H h1 hrow
          have hA := R.val
          injection hA with hA _ _
          subst hA
          refine ⟨_, rfl, rfl, by rw [← hr]; simp; omega, fun k c hk => ?_⟩
          rw [← hr, List.getElem?_take] at hk
          split at hk
          · rename_i hin
            rw [List.getElem?_drop] at hk
            obtain ⟨u, hu, hcu⟩ := R.cell A rfl i (off + k) c (by unfold rc; rw [hri]; exact hk)
            refine ⟨u, ?_, hcu⟩
            have he : A.off + (i * sz + off) + k = A.off + (i * sz + (off + k)) := by omega
            simp only [he]
            exact hu
          · cases hk
        · cases hr
      · cases hr
    · cases hr
  | ro h => cases h <;> simp [rdPtr] at hr
  | _ => simp [rdPtr] at hr

theorem add_spot {a : Addr} (h : a.spot = none) (j : Nat) : a.add j = ⟨a.block, a.off + j, none⟩ := by
  unfold Addr.add
  split
  · rename_i hj; subst hj; cases a; simp_all
  · rfl

theorem info_of_size {P : Program} {t : TypeId} {s : Nat} (h : szOf P t = some s) : ∃ i, P.info? t = some i ∧ i.size = s := by
  simpa [szOf] using h
theorem run_size {P : Program} {t : TypeId} {s : Nat} (h : szOf P t = some s) (w : World) : (sizeOf t).run P w = .ok s w := by
  obtain ⟨i, hi, rfl⟩ := info_of_size h
  simp [sizeOf, typeInfo, hi]
theorem run_isAgg {P : Program} {t : TypeId} {b : Bool} (h : aggB P t = some b) (w : World) : (isAgg t).run P w = .ok b w := by
  unfold aggB at h
  cases hu : P.underlying t with
  | none => rw [hu] at h; cases h
  | some d => cases d <;> rw [hu] at h <;> injection h with h <;> subst h <;> simp [isAgg, run_underlying hu]

/-- Values of cells that are read. -/
theorem vals_of {V : View} {ad : Addr} {cs : List Cell} (h : ∀ (i : Nat) (c : Cell), cs[i]? = some c → ∃ u, V.w.cell? ⟨ad.block, ad.off + i, none⟩ = some u ∧ CR V c u) :
    ∃ us : List Value, us.length = cs.length ∧ (∀ j u, us[j]? = some u → V.w.cell? ⟨ad.block, ad.off + j, none⟩ = some u) ∧ CSR V cs us.toArray := by
  let f : Nat → Value := fun i => (V.w.cell? ⟨ad.block, ad.off + i, none⟩).getD undef
  refine ⟨(List.range cs.length).map f, by simp, fun j u hu => ?_, by simp, fun i c hc => ?_⟩
  · obtain ⟨hj, rfl⟩ := List.getElem?_eq_some_iff.1 hu
    have hj' : j < cs.length := by simpa using hj
    obtain ⟨u, h1, _⟩ := h j _ (List.getElem?_eq_getElem hj')
    simp [f, h1]
  · have hi := (List.getElem?_eq_some_iff.1 hc).1
    obtain ⟨u, h1, h2⟩ := h i c hc
    have : ((List.range cs.length).map f).toArray.getD i undef = u := by simp [Array.getD, hi, f, h1]
    rw [this]; exact h2

theorem run_loadVarA {P : Program} {V : View} (H : HR V) {p : Cell} {v : Value} (h : CR V p v) {t : TypeId} {s : Nat} {cs : List Cell} (ha : aggB P t = some true) (hs : szOf P t = some s) (hr : rdPtr V.bl s p = some cs) :
    ∃ ad us, v = .pointer (some ad) ∧ (loadVar t ad).run P V.w = .ok (.agg us) V.w ∧ CSR V cs us := by
  obtain ⟨ad, rfl, hsp, hl, hc⟩ := rdPtr_sound H h hr
  obtain ⟨us, h1, h2, h3⟩ := vals_of hc
  refine ⟨ad, us.toArray, rfl, ?_, h3⟩
  have := run_loadCells_list (P := P) V.w ad us (fun j u hj => by rw [add_spot hsp]; exact h2 j u hj)
  rw [h1, hl] at this
  simp [loadVar, run_isAgg ha, run_size hs, this]
theorem run_loadVar1 {P : Program} {V : View} (H : HR V) {p : Cell} {v : Value} (h : CR V p v) {t : TypeId} {c : Cell} (ha : aggB P t = some false) (hr : rdPtr V.bl 1 p = some [c]) :
    ∃ ad u, v = .pointer (some ad) ∧ (loadVar t ad).run P V.w = .ok u V.w ∧ CR V c u := by
  obtain ⟨ad, rfl, hsp, hl, hc⟩ := rdPtr_sound H h hr
  obtain ⟨u, h1, h2⟩ := hc 0 c rfl
  refine ⟨ad, u, rfl, ?_, h2⟩
  have he : (⟨ad.block, ad.off + 0, none⟩ : Addr) = ad := by cases ad; simp_all
  rw [he] at h1
  simp [loadVar, run_isAgg ha, load, Sem.run, h1]

end Go.AM

namespace Go.AM

theorem put_get {α : Type} {l v : List α} {o : Nat} (ho : o + v.length ≤ l.length) (i : Nat) :
    (l.take o ++ v ++ l.drop (o + v.length))[i]? = if i < o then l[i]? else if i < o + v.length then v[i - o]? else l[i]? := by
  have h1 : (l.take o).length = o := by simp; omega
  by_cases hi : i < o
  · rw [if_pos hi, List.append_assoc, List.getElem?_append_left (by omega), List.getElem?_take, if_pos hi]
  · rw [if_neg hi]
    by_cases hi2 : i < o + v.length
    · rw [if_pos hi2, List.getElem?_append_left (by simp; omega), List.getElem?_append_right (by omega), h1]
    · rw [if_neg hi2, List.getElem?_append_right (by simp; omega), List.getElem?_drop]
      congr 1
      simp
      omega
theorem put_length {α : Type} {l v : List α} {o : Nat} (ho : o + v.length ≤ l.length) : (l.take o ++ v ++ l.drop (o + v.length)).length = l.length := by
  simp; omega
theorem putCells_get {l v : List Cell} {o : Nat} (ho : o + v.length ≤ l.length) (i : Nat) :
    (putCells l o v)[i]? = if i < o then l[i]? else if i < o + v.length then v[i - o]? else l[i]? := put_get ho i
theorem putCells_length {l v : List Cell} {o : Nat} (ho : o + v.length ≤ l.length) : (putCells l o v).length = l.length := put_length ho

def putVals (C : Array Value) (o : Nat) (us : List Value) : Array Value := (C.toList.take o ++ us ++ C.toList.drop (o + us.length)).toArray
theorem putVals_size {C : Array Value} {o : Nat} {us : List Value} (ho : o + us.length ≤ C.size) : (putVals C o us).size = C.size := by
  have := put_length (l := C.toList) (v := us) (o := o) (by simpa using ho)
  simpa [putVals] using this
theorem putVals_getD {C : Array Value} {o : Nat} {us : List Value} (ho : o + us.length ≤ C.size) (i : Nat) :
    (putVals C o us).getD i undef = if i < o then C.getD i undef else if i < o + us.length then us.getD (i - o) undef else C.getD i undef := by
  have h := put_get (l := C.toList) (v := us) (o := o) (by simpa using ho) i
  have e : ∀ (A : Array Value), A.getD i undef = (A[i]?).getD undef := fun A => Array.getD_eq_getD_getElem? ..
  rw [e, e]
  have h2 : (putVals C o us)[i]? = (C.toList.take o ++ us ++ C.toList.drop (o + us.length))[i]? := by simp [putVals]
  rw [h2, h]
  split
  · simp
  · split
    · simp [List.getD]
    · simp

theorem csr_list {V : View} {cs : List Cell} {vs : Array Value} (h : CSR V cs vs) {i : Nat} {c : Cell} (hc : cs[i]? = some c) : CR V c (vs.toList.getD i undef) := by
  have := h.get i c hc
  have e : vs.getD i undef = vs.toList.getD i undef := by simp [Array.getD_eq_getD_getElem?, List.getD]
  rwa [← e]

/-- A write through a pointer. -/
theorem wrPtr_sound {P : Program} {V : View} (H : HR V) {p : Cell} {v : Value} (h : CR V p v) {cs : List Cell} {us : Array Value} (hcs : CSR V cs us) {hd : Nat} {b : Blk} (hw : wrPtr V.bl cs p = some (hd, b)) :
    ∃ ad w', v = .pointer (some ad) ∧ (storeCells ad us.toList).run P V.w = .ok () w' ∧ Ext V ⟨w', V.mu, upd V.bl hd b, V.hid⟩ ∧ HR ⟨w', V.mu, upd V.bl hd b, V.hid⟩ := by
  have hul : us.toList.length = cs.length := by simpa using hcs.len.symm
  cases h with
  | @bp h off b0 h1 h3 =>
    unfold wrPtr at hw
    simp only at hw
    split at hw
    · rename_i cs0 hb
      split at hw
      · rename_i hle
        injection hw with hw
        injection hw with hw1 hw2
        subst hw1 hw2
        have hv := h3 _ hb
        subst hv
        obtain ⟨C, e, hh, hl, hc⟩ := H.at hb
        have hlive : (V.bl h).live := by rw [hb]; trivial
        have ho : off + us.toList.length ≤ C.size := by omega
        have hst := run_storeCells_at P (V.mu h) off e us.toList 0 C V.w hh (by omega) hcs.one1
        rw [Nat.add_zero] at hst
        have hsz : ∀ b', b' ≠ V.mu h → (V.w.setRow (V.mu h) (putVals C off us.toList)).heap[b']? = V.w.heap[b']? := fun b' hb' => setRow_other _ _ _ _ hb'
        have ht : Turn V ⟨V.w.setRow (V.mu h) (putVals C off us.toList), V.mu, upd V.bl h (.box (putCells cs0 off cs)), V.hid⟩ h := by
          unfold Turn
          rw [hb]
          exact .inr ⟨_, upd_same _ _ _, putCells_length (by omega), rfl⟩
        refine ⟨_, _, rfl, hst, View.write H hlive (setRow_size ..) hsz _ ht, HR.write H hlive (setRow_size ..) hsz ht (fun V' hV' E => ?_)⟩
        subst hV'
        refine ⟨_, e, setRow_heap _ _ _ _ _ _ hh, ?_, fun i c hi => ?_⟩
        · rw [putCells_length (by omega)]
          have := putVals_size ho
          omega
        · have hg := putVals_getD ho i
          rw [hg]
          rw [putCells_get (by omega)] at hi
          split at hi
          · rename_i hlt; rw [if_pos hlt]; exact (hc i c hi).mono E
          · rename_i hlt
            rw [if_neg hlt]
            split at hi
            · rename_i hlt2; rw [if_pos (by omega)]; exact (csr_list hcs hi).mono E
            · rename_i hlt2; rw [if_neg (by omega)]; exact (hc i c hi).mono E
      · cases hw
    · cases hw
  | @ep a sz i off A n' cap h1 h2 =>
    cases a with
    | sl h n lo len =>
      unfold wrPtr at hw
      simp only at hw
      split at hw
      · rename_i sz' rows hb
        split at hw
        · rename_i hcond
          obtain ⟨hs1, hn1, hi1⟩ := hcond
          subst hs1
          split at hw
          · rename_i r hr
            split at hw
            · rename_i hle
              injection hw with hw
              injection hw with hw1 hw2
              subst hw1 hw2
              cases h1 with
              | ro h1 => cases h1
              | sl g1 g2 g3 =>
                obtain ⟨_, hok⟩ := g3 _ _ hb
                obtain ⟨hlo, cap', cells, e', fr, h5, h6, h7, hv⟩ := hok hn1
                injection hv with hA _ _
                injection hA with hA
                subst hA
                obtain ⟨hwid, C, e, hh, hl, hc⟩ := H.at hb
                have hlive : (V.bl h).live := by rw [hb]; trivial
                have hrl : r.length = sz' := hwid r (List.mem_of_getElem? hr)
                have hrow := (List.getElem?_eq_some_iff.1 hr).1
                have hoff : lo * sz' + (i * sz' + off) = (lo + i) * sz' + off := by rw [Nat.add_mul]; omega
                have hend : (lo + i) * sz' + sz' ≤ C.size := by
                  have : (lo + i + 1) * sz' ≤ rows.length * sz' := Nat.mul_le_mul_right _ hrow
                  rw [Nat.add_mul, Nat.one_mul] at this
                  omega
                have ho : (lo + i) * sz' + off + us.toList.length ≤ C.size := by omega
                have hst := run_storeCells_at P (V.mu h) ((lo + i) * sz' + off) e us.toList 0 C V.w hh (by omega) hcs.one1
                rw [Nat.add_zero] at hst
                have hsz : ∀ b', b' ≠ V.mu h → (V.w.setRow (V.mu h) (putVals C ((lo + i) * sz' + off) us.toList)).heap[b']? = V.w.heap[b']? := fun b' hb' => setRow_other _ _ _ _ hb'
                have ht : Turn V ⟨V.w.setRow (V.mu h) (putVals C ((lo + i) * sz' + off) us.toList), V.mu, upd V.bl h (.arr sz' (rows.set (lo + i) (putCells r off cs))), V.hid⟩ h := by
                  unfold Turn
                  rw [hb]
                  refine .inr ⟨_, upd_same _ _ _, .inl ⟨by simp, rfl, fun cells0 e0 fr0 hc0 => ?_⟩⟩
                  rw [hh] at hc0
                  injection hc0 with hc0
                  injection hc0 with hc1 hc2 hc3
                  subst hc1 hc2 hc3
                  exact ⟨_, setRow_heap _ _ _ _ _ _ hh, putVals_size ho⟩
                refine ⟨_, _, rfl, ?_, View.write H hlive (setRow_size ..) hsz _ ht, HR.write H hlive (setRow_size ..) hsz ht (fun V' hV' E => ?_)⟩
                · simp only [hoff]; exact hst
                · subst hV'
                  refine ⟨fun r' hr' => ?_, _, e, setRow_heap _ _ _ _ _ _ hh, ?_, fun i' j c hi => ?_⟩
                  · rcases List.mem_or_eq_of_mem_set hr' with hr' | hr'
                    · exact hwid _ hr'
                    · rw [hr', putCells_length (by omega)]; exact hrl
                  · have := putVals_size ho
                    simp only [List.length_set]
                    omega
                  · have hg := putVals_getD ho (i' * sz' + j)
                    rw [hg]
                    obtain ⟨r', hr1, hr2⟩ := rc_some hi
                    by_cases hii : i' = lo + i
                    · subst hii
                      rw [List.getElem?_set_self hrow] at hr1
                      injection hr1 with hr1
                      subst hr1
                      rw [putCells_get (by omega)] at hr2
                      split at hr2
                      · rename_i hlt
                        rw [if_pos (by omega)]
                        exact (hc _ _ _ (by unfold rc; rw [hr]; exact hr2)).mono E
                      · rename_i hlt
                        rw [if_neg (by omega)]
                        split at hr2
                        · rename_i hlt2
                          rw [if_pos (by omega)]
                          have hx : (lo + i) * sz' + j - ((lo + i) * sz' + off) = j - off := by omega
                          rw [hx]
                          exact (csr_list hcs hr2).mono E
                        · rename_i hlt2
                          rw [if_neg (by omega)]
                          exact (hc _ _ _ (by unfold rc; rw [hr]; exact hr2)).mono E
                    · rw [List.getElem?_set_ne (Ne.symm hii)] at hr1
                      have hrc : rc rows i' j = some c := by unfold rc; rw [hr1]; exact hr2
                      have hj : j < sz' := by
                        have := (List.getElem?_eq_some_iff.1 hr2).1
                        have := hwid _ (List.mem_of_getElem? hr1)
                        omega
                      have hval := (hc _ _ _ hrc).mono E
                      rcases Nat.lt_or_gt_of_ne hii with hlt | hgt
                      · rw [if_pos (by have := mul_lt_of (sz := sz') hlt hj; omega)]
                        exact hval
                      · have h9 : (lo + i + 1) * sz' ≤ i' * sz' := Nat.mul_le_mul_right _ hgt
                        rw [Nat.add_mul, Nat.one_mul] at h9
                        rw [if_neg (by omega), if_neg (by omega)]
                        exact hval
            · cases hw
          · cases hw
        · cases hw
      · cases hw
    | _ => simp [wrPtr] at hw
  | ro h => cases h <;> simp [wrPtr] at hw
  | _ => simp [wrPtr] at hw

end Go.AM

namespace Go.AM

theorem new_box {V : View} (H : HR V) {w' : World} {us : Array Value} {e : TypeId} (hw : w'.heap = V.w.heap.push (.cells us e)) {nw : Nat} (hn : V.bl nw = .none) {cs : List Cell} (hcs : CSR V cs us) (hio : Wio V.w w' := by exact ⟨rfl, rfl, rfl⟩) :
    let V' : View := ⟨w', upd V.mu nw V.w.heap.size, upd V.bl nw (.box cs), V.hid⟩
    Ext V V' ∧ HR V' ∧ VR V' (.one (.bp nw 0)) (.pointer (some ⟨V.w.heap.size, 0, none⟩)) := by
  intro V'
  refine ⟨View.alloc H hw hn _ hio, HR.alloc H hw hn (fun V' hV' E ho => ?_) hio, .one (.bp (by simp only [V', upd_same]; simp) (fun cs' _ => by simp only [V', upd_same]))⟩
  exact ⟨us, e, ho, by have := hcs.len; omega, fun i c hc => (hcs.get i c hc).mono E⟩

theorem new_arr {V : View} (H : HR V) {w' : World} {us : Array Value} {e : TypeId} (hw : w'.heap = V.w.heap.push (.cells us e)) {nw : Nat} (hn : V.bl nw = .none) {sz : Nat} {rows : List (List Cell)}
    (hwid : ∀ r ∈ rows, r.length = sz) {cap : Nat} (hcap : rows.length ≤ cap) (hsz : cap * sz ≤ us.size)
    (hc : ∀ i j c, rc rows i j = some c → CR V c (us.getD (i * sz + j) undef)) (hio : Wio V.w w' := by exact ⟨rfl, rfl, rfl⟩) :
    let V' : View := ⟨w', upd V.mu nw V.w.heap.size, upd V.bl nw (.arr sz rows), V.hid⟩
    Ext V V' ∧ HR V' ∧ VR V' (.one (.sl nw rows.length 0 rows.length)) (.slice (some ⟨V.w.heap.size, 0, none⟩) rows.length cap) := by
  intro V'
  have hle : rows.length * sz ≤ cap * sz := Nat.mul_le_mul_right _ hcap
  refine ⟨View.alloc H hw hn _ hio, HR.alloc H hw hn (fun V' hV' E ho => ?_) hio, .one (.sl (by simp only [V', upd_same]; simp) hcap (fun sz' rows' hb => ?_))⟩
  · exact ⟨hwid, us, e, ho, by omega, fun i j c hcc => (hc i j c hcc).mono E⟩
  · simp only [V', upd_same] at hb
    injection hb with hb1 hb2
    subst hb1 hb2
    refine ⟨Nat.le_refl _, fun _ => ⟨by omega, cap, us, e, (0, 0), ?_, hcap, by simpa using hsz, ?_⟩⟩
    · simp only [V', upd_same]; exact push_at hw
    · simp only [V', upd_same, Nat.zero_mul]

/-! ### fill -/
theorem foldl_put (us : List Value) : ∀ (s o : Nat) (C : Array Value), o + s + us.length ≤ C.size →
    (us.zipIdx s).foldl (fun cs (x : Value × Nat) => cs.setIfInBounds (o + x.2) x.1) C = putVals C (o + s) us := by
  induction us with
  | nil => intro s o C h; simp [putVals]
  | cons u us ih =>
    intro s o C h
    simp only [List.zipIdx_cons, List.foldl_cons]
    simp only [List.length_cons] at h
    rw [ih (s + 1) o _ (by simp; omega)]
    have h1 : o + s < C.size := by omega
    apply Array.ext
    · rw [putVals_size (by simp; omega), putVals_size (by simp; omega)]; simp
    · intro k hk1 hk2
      have hk : k < C.size := by rw [putVals_size (by simp; omega)] at hk2; exact hk2
      have e1 := putVals_getD (C := C.setIfInBounds (o + s) u) (o := o + (s + 1)) (us := us) (by simp; omega) k
      have e2 := putVals_getD (C := C) (o := o + s) (us := u :: us) (by simp; omega) k
      have g : ∀ (A : Array Value) (h : k < A.size), A.getD k undef = A[k] := fun A h => by simp [Array.getD, h]
      rw [g _ hk1] at e1
      rw [g _ hk2] at e2
      rw [e1, e2]
      have e3 : (C.setIfInBounds (o + s) u).getD k undef = if k = o + s then u else C.getD k undef := by
        have hks : k < (C.setIfInBounds (o + s) u).size := by simpa using hk
        rw [g _ hks, g _ hk, Array.getElem_setIfInBounds]
        split
        · rename_i he; rw [if_pos he.symm]
        · rename_i he; rw [if_neg (fun x => he x.symm)]
      rw [e3]
      simp only [List.length_cons]
      by_cases ha : k < o + s
      · rw [if_pos (by omega), if_pos ha, if_neg (by omega)]
      · by_cases hb : k = o + s
        · subst hb
          rw [if_pos (by omega), if_pos rfl, if_neg ha, if_pos (by omega)]
          simp
        · rw [if_neg ha]
          by_cases hc : k < o + s + (us.length + 1)
          · rw [if_neg (by omega), if_pos (by omega), if_pos (by omega)]
            have : k - (o + s) = (k - (o + (s + 1))) + 1 := by omega
            rw [this]
            simp [List.getD]
          · rw [if_neg (by omega), if_neg (by omega), if_neg hb, if_neg (by omega)]

theorem csr_put {V : View} {cs v : List Cell} {C us : Array Value} {o : Nat} (hcs : CSR V cs C) (hv : CSR V v us) (ho : o + v.length ≤ cs.length) : CSR V (putCells cs o v) (putVals C o us.toList) := by
  have hul : us.toList.length = v.length := by simpa using hv.len.symm
  have hl := hcs.len
  refine ⟨by rw [putCells_length ho, putVals_size (by omega), hl], fun i c hi => ?_⟩
  rw [putVals_getD (by omega)]
  rw [putCells_get ho] at hi
  split at hi
  · rename_i h; rw [if_pos h]; exact hcs.get i c hi
  · rename_i h
    rw [if_neg h]
    split at hi
    · rename_i h2; rw [if_pos (by omega)]; exact csr_list hv hi
    · rename_i h2; rw [if_neg (by omega)]; exact hcs.get i c hi

/-- Parts, by their places. -/
def PartsR (V : View) : List (Nat × List Cell) → List (Nat × Value) → Prop
  | [], [] => True
  | (i, cs) :: r, (j, v) :: r' => i = j ∧ CSR V cs v.cells ∧ PartsR V r r'
  | _, _ => False

theorem fill_sound {V : View} {place : Nat → Option (Nat × Nat)} : ∀ {ps : List (Nat × List Cell)} {vs : List (Nat × Value)} {cs out : List Cell} {C : Array Value}, PartsR V ps vs → CSR V cs C → fillA place cs ps = some out →
    ∃ D, Instr.fill place C vs = some D ∧ CSR V out D ∧ out.length = cs.length := by
  intro ps
  induction ps with
  | nil =>
    intro vs cs out C hp hc h
    cases vs with
    | nil => simp only [fillA] at h; injection h with h; subst h; exact ⟨C, rfl, hc, rfl⟩
    | cons _ _ => exact hp.elim
  | cons p ps ih =>
    intro vs cs out C hp hc h
    cases vs with
    | nil => exact hp.elim
    | cons q vs =>
      obtain ⟨i, v⟩ := p
      obtain ⟨j, u⟩ := q
      obtain ⟨rfl, hv, hr⟩ := hp
      simp only [fillA] at h
      cases hpl : place i with
      | none => rw [hpl] at h; cases h
      | some os =>
        obtain ⟨o, s⟩ := os
        rw [hpl] at h
        simp only at h
        split at h
        · rename_i hcond
          obtain ⟨D, hD, hcd, hlen⟩ := ih hr (csr_put hc hv hcond.2) h
          refine ⟨D, ?_, hcd, by rw [hlen, putCells_length hcond.2]⟩
          have h1 := hv.len
          have h2 := hc.len
          have hf := foldl_put u.cells.toList 0 o C (by simp; omega)
          rw [Nat.add_zero] at hf
          simp only [Instr.fill, hpl]
          rw [if_neg (by simp; omega)]
          rw [← hD]
          congr 1
          rw [← hf, ← Array.foldl_toList]
          simp
        · cases h

theorem parts_get {V : View} {env : Env} {a : Act} (R : ER V env a.tmps) : ∀ {l : List (Nat × Operand)} {ps : List (Nat × List Cell)}, l.mapM (fun p => ((evo env p.2).cells).map fun cs => (p.1, cs)) = some ps → PartsR V ps (l.map fun p => (p.1, a.eval p.2)) := by
  intro l
  induction l with
  | nil => intro ps h; simp at h; subst h; trivial
  | cons p l ih =>
    intro ps h
    simp only [List.mapM_cons, Option.bind_eq_bind, Option.pure_def] at h
    obtain ⟨y, hy, h⟩ := Option.bind_eq_some_iff.1 h
    obtain ⟨ys, hys, h⟩ := Option.bind_eq_some_iff.1 h
    injection h with h
    subst h
    obtain ⟨cs, hcs, rfl⟩ := Option.map_eq_some_iff.1 hy
    exact ⟨rfl, cells_sound (evo_sound R p.2) hcs, ih hys⟩

theorem zero_sound {P : Program} {V : View} {t : TypeId} {z : List Cell} (h : zeroCells P t = some z) : ∃ v, (∀ w, (zeroValue t).run P w = .ok v w) ∧ CSR V z v.cells ∧ ∃ i, P.info? t = some i ∧ i.zero = some v := by
  unfold zeroCells at h
  cases hi : P.info? t with
  | none => rw [hi] at h; cases h
  | some i =>
    rw [hi] at h
    simp only at h
    cases hz : i.zero with
    | none => rw [hz] at h; cases h
    | some v =>
      rw [hz] at h
      exact ⟨v, fun w => by simp [zeroValue, typeInfo, hi, hz], ofPlains_sound h, i, rfl, hz⟩

/-- Zero cells, one row behind the other. -/
theorem csr_zeros {V : View} {z : List Cell} {zv : Array Value} (hz : CSR V z zv) (h0 : 0 < z.length) (n m : Nat) (hm : m = n * z.length) :
    CSR V (List.replicate n z).flatten ((Array.range m).map (fun i => zv[i % zv.size]!)) := by
  subst hm
  refine ⟨by simp, fun i c hc => ?_⟩
  have hi : i < n * z.length := by have := (List.getElem?_eq_some_iff.1 hc).1; simpa using this
  have hmod : i % z.length < z.length := Nat.mod_lt _ h0
  have hcell : z[i % z.length]? = some c := by
    clear hz
    induction n generalizing i with
    | zero => simp at hi
    | succ n ih =>
      rw [List.replicate_succ, List.flatten_cons] at hc
      by_cases hlt : i < z.length
      · rw [List.getElem?_append_left hlt] at hc
        rw [Nat.mod_eq_of_lt hlt]; exact hc
      · rw [List.getElem?_append_right (by omega)] at hc
        have h2 := ih (i - z.length) hc (by rw [Nat.add_mul] at hi; omega) (Nat.mod_lt _ h0)
        rw [Nat.mod_eq_sub_mod (by omega)]
        exact h2
  have := hz.get _ _ hcell
  have hl := hz.len
  have e : ((Array.range (n * z.length)).map (fun i => zv[i % zv.size]!)).getD i undef = zv.getD (i % z.length) undef := by
    rw [← hl]
    have hx : i % z.length < zv.size := by omega
    simp [Array.getD, hi, hx]
  rw [e]; exact this

theorem chunk_get (sz : Nat) : ∀ (n : Nat) (l : List Cell) (i j : Nat) (c : Cell), rc (chunk sz n l) i j = some c → i < n ∧ j < sz ∧ l[i * sz + j]? = some c := by
  intro n
  induction n with
  | zero => intro l i j c h; simp [chunk, rc] at h
  | succ n ih =>
    intro l i j c h
    cases i with
    | zero =>
      simp only [chunk, rc, List.getElem?_cons_zero, Option.bind_some] at h
      rw [List.getElem?_take] at h
      split at h
      · rename_i hj; exact ⟨by omega, hj, by simpa using h⟩
      · cases h
    | succ i =>
      have h' : rc (chunk sz n (l.drop sz)) i j = some c := by simpa [chunk, rc] using h
      obtain ⟨h1, h2, h3⟩ := ih _ _ _ _ h'
      rw [List.getElem?_drop] at h3
      refine ⟨by omega, h2, ?_⟩
      have : (i + 1) * sz + j = sz + (i * sz + j) := by rw [Nat.add_mul]; omega
      rw [this]; exact h3
theorem chunk_length (sz : Nat) : ∀ (n : Nat) (l : List Cell), (chunk sz n l).length = n
  | 0, _ => rfl
  | n + 1, l => by simp [chunk, chunk_length sz n]
theorem chunk_wid (sz : Nat) : ∀ (n : Nat) (l : List Cell), n * sz ≤ l.length → ∀ r ∈ chunk sz n l, r.length = sz
  | 0, _, _ => by simp [chunk]
  | n + 1, l, h => by
    rw [Nat.add_mul, Nat.one_mul] at h
    intro r hr
    simp only [chunk, List.mem_cons] at hr
    rcases hr with rfl | hr
    · simp; omega
    · exact chunk_wid sz n (l.drop sz) (by simp; omega) r hr

end Go.AM

namespace Go.AM

theorem ne_of_d {k j : Nat} {blk : Blk} (h : ∀ b, some (k, blk) ≠ some (j, b)) : j ≠ k := fun e => h blk (by subst e; rfl)

theorem run_append_empty {P : Program} (w : World) (t ty e : TypeId) (i : TypeInfo) (ht : P.underlying t = some (.slice e)) (hi : P.info? e = some i) (base A : Option Addr) (n cap c : Nat) (hle : n ≤ cap) :
    (Builtin.append_ #[t, t] ty #[.slice base n cap, .slice A 0 c]).run P w = .ok (.slice base n cap) w := by
  cases A <;> cases base <;> simp [Builtin.append_, run_underlying ht, sizeOf, typeInfo, hi, Builtin.lenOf, Builtin.firstCells, hle, loadCells, loadCellsFrom, storeCells]

theorem run_append_room' {P : Program} (w : World) (t ty e e' : TypeId) (i : TypeInfo) (ht : P.underlying t = some (.slice e)) (hi : P.info? e = some i)
    (g sLen sCap : Nat) (cur : Array Value) (hg : w.heap[g]? = some (.cells cur e' (0, 0)))
    (a : Addr) (m c : Nat) (news : List Value) (hl : news.length = m * i.size) (hnews : ∀ j u, news[j]? = some u → w.cell? (a.add j) = some u) (h1 : ∀ u ∈ news, u.oneCell' = true)
    (hroom : sLen + m ≤ sCap) (hfit : sLen * i.size + news.length ≤ cur.size) :
    (Builtin.append_ #[t, t] ty #[.slice (some ⟨g, 0, none⟩) sLen sCap, .slice (some a) m c]).run P w =
      .ok (.slice (some ⟨g, 0, none⟩) (sLen + m) sCap) (w.setRow g (putVals cur (sLen * i.size) news)) := by
  have hf := run_firstCells_some (P := P) w i.size m a m c news hl hnews
  have hst := run_storeCells_at P g (sLen * i.size) e' news 0 cur w hg (by simpa using hfit) h1
  simp only [Nat.add_zero] at hst
  simp [Builtin.append_, run_underlying ht, sizeOf, typeInfo, hi, Builtin.lenOf, hroom, hf, Addr.add_lit, hst, putVals]

/-- The values behind rows that are read. -/
theorem rows_vals {V : View} {sz : Nat} {v : Value} {rows : List (List Cell)} {A : Option Addr} {cap : Nat} (R : RowsAt V sz v rows A cap) (hs : 0 < sz) (hne : rows ≠ []) :
    ∃ (ad : Addr) (news : List Value), A = some ad ∧ news.length = rows.length * sz ∧ (∀ j u, news[j]? = some u → V.w.cell? (ad.add j) = some u) ∧ (∀ u ∈ news, u.oneCell' = true) ∧
      ∀ i j c, rc rows i j = some c → CR V c (news.getD (i * sz + j) undef) := by
  obtain ⟨ad, rfl⟩ := R.addr hne
  have hsp := R.spot ad rfl hne
  let f : Nat → Value := fun k => (V.w.cell? ⟨ad.block, ad.off + k, none⟩).getD undef
  have key : ∀ k, k < rows.length * sz → ∃ c u, rc rows (k / sz) (k % sz) = some c ∧ V.w.cell? ⟨ad.block, ad.off + k, none⟩ = some u ∧ CR V c u := by
    intro k hk
    have h1 : k / sz < rows.length := Nat.div_lt_of_lt_mul (by rw [Nat.mul_comm]; exact hk)
    have h2 : k % sz < sz := Nat.mod_lt _ hs
    have hw := R.wid _ (List.getElem_mem h1)
    have hrc : rc rows (k / sz) (k % sz) = some ((rows[k / sz])[k % sz]'(by omega)) := by
      unfold rc
      rw [List.getElem?_eq_getElem h1]
      exact List.getElem?_eq_getElem _
    obtain ⟨u, hu, hc⟩ := R.cell ad rfl _ _ _ hrc
    have he : k / sz * sz + k % sz = k := Nat.div_add_mod' k sz
    rw [he] at hu
    exact ⟨_, u, hrc, hu, hc⟩
  refine ⟨ad, (List.range (rows.length * sz)).map f, rfl, by simp, fun j u hj => ?_, fun u hu => ?_, fun i j c hc => ?_⟩
  · obtain ⟨hj', rfl⟩ := List.getElem?_eq_some_iff.1 hj
    obtain ⟨c, u, _, hu, _⟩ := key j (by simpa using hj')
    rw [add_spot hsp]
    simp [f, hu]
  · obtain ⟨k, hk, rfl⟩ := List.mem_map.1 hu
    obtain ⟨c, u, _, hu, hcr⟩ := key k (by simpa using hk)
    simp [f, hu, hcr.one]
  · obtain ⟨r, hr1, hr2⟩ := rc_some hc
    have hj := (List.getElem?_eq_some_iff.1 hr2).1
    have hi := (List.getElem?_eq_some_iff.1 hr1).1
    have hw := R.wid _ (List.mem_of_getElem? hr1)
    have hlt : i * sz + j < rows.length * sz := mul_lt_of hi (by omega)
    obtain ⟨u, hu, hcr⟩ := R.cell ad rfl _ _ _ hc
    have e : ((List.range (rows.length * sz)).map f).getD (i * sz + j) undef = u := by simp [List.getD, hlt, f, hu]
    rw [e]; exact hcr

theorem getD_append_toArray {xs ys : List Value} {zs : Array Value} {k : Nat} : (xs.toArray ++ ys.toArray ++ zs).getD k undef = if k < xs.length then xs.getD k undef else if k < xs.length + ys.length then ys.getD (k - xs.length) undef else zs.getD (k - (xs.length + ys.length)) undef := by
  simp only [Array.getD_eq_getD_getElem?, List.getD_eq_getElem?_getD]
  by_cases h1 : k < xs.length
  · rw [if_pos h1, Array.getElem?_append_left (by simp; omega), Array.getElem?_append_left (by simpa using h1)]
    simp
  · rw [if_neg h1]
    by_cases h2 : k < xs.length + ys.length
    · rw [if_pos h2, Array.getElem?_append_left (by simp; omega), Array.getElem?_append_right (by simp; omega)]
      simp
    · rw [if_neg h2, Array.getElem?_append_right (by simp; omega)]
      simp

theorem appendA_sound {P : Program} {V : View} (H : HR V) {t ty e : TypeId} {i : TypeInfo} {zv : Value} (ht : P.underlying t = some (.slice e)) (hi : P.info? e = some i) (hz : i.zero = some zv) (hzs : zv.cells.size = i.size) (hs : 0 < i.size)
    {nw : Nat} (hn : V.bl nw = .none) {sc : Cell} {vs vx : Value} (hcs : CR V sc vs) {new : List (List Cell)} {A : Option Addr} {cx : Nat} (R : RowsAt V i.size vx new A cx) {v : AV} {d : Option (Nat × Blk)}
    (h : appendA nw V.bl i.size i.bytes sc new = some (v, d)) (hb0 : 0 < i.bytes) :
    ∃ w' mu' v', (Builtin.append_ #[t, t] ty #[vs, vx]).run P V.w = .ok v' w' ∧ Ext V ⟨w', mu', bapp V.bl d, V.hid⟩ ∧ HR ⟨w', mu', bapp V.bl d, V.hid⟩ ∧ VR ⟨w', mu', bapp V.bl d, V.hid⟩ v v' ∧ ∀ j, (∀ b, d ≠ some (j, b)) → mu' j = V.mu j := by
  have hvx := R.val
  subst hvx
  unfold appendA at h
  split at h
  · rename_i hemp
    have hnil : new = [] := List.isEmpty_iff.1 hemp
    subst hnil
    simp only [List.length_nil] at *
    have same : ∀ (base : Option Addr) (n cap : Nat), n ≤ cap → vs = .slice base n cap → v = .one sc → d = none → ∃ w' mu' v', (Builtin.append_ #[t, t] ty #[vs, .slice A 0 cx]).run P V.w = .ok v' w' ∧ Ext V ⟨w', mu', bapp V.bl d, V.hid⟩ ∧ HR ⟨w', mu', bapp V.bl d, V.hid⟩ ∧ VR ⟨w', mu', bapp V.bl d, V.hid⟩ v v' ∧ ∀ j, (∀ b, d ≠ some (j, b)) → mu' j = V.mu j := by
      rintro base n cap hle rfl rfl rfl
      exact ⟨V.w, V.mu, _, run_append_empty V.w t ty e i ht hi base A n cap cx hle, Ext.refl V, H, .one hcs, fun _ _ => rfl⟩
    split at h
    · injection h with h
      injection h with h1 h2
      cases hcs with
      | ro hr => cases hr with
        | sc _ => exact same none 0 0 (Nat.le_refl _) rfl h1.symm h2.symm
    · injection h with h
      injection h with h1 h2
      cases hcs with
      | ro hr => cases hr with
        | @e0 A0 => exact same A0 0 0 (Nat.le_refl _) rfl h1.symm h2.symm
    · rename_i hh n lo len
      split at h
      · rename_i sz' rows hb
        split at h
        · rename_i hc
          injection h with h
          injection h with h1 h2
          cases hcs with
          | ro hr => cases hr
          | sl g1 g2 g3 =>
            obtain ⟨_, hok⟩ := g3 _ _ hb
            obtain ⟨_, cap, _, _, _, _, hle, _, hv⟩ := hok hc.2
            exact same _ _ _ hle hv h1.symm h2.symm
        · cases h
      · cases h
    · cases h
  · rename_i hemp
    have hne : new ≠ [] := fun h => hemp (by simp [h])
    have h0 : 0 < new.length := List.length_pos_iff.2 hne
    obtain ⟨ad, news, rfl, hl, hnews, hone, hcr⟩ := rows_vals R hs hne
    have fresh : ∀ (base : Option Addr), vs = .slice base 0 0 → v = .one (.sl nw new.length 0 new.length) → d = some (nw, .arr i.size new) → new.length * i.bytes ≤ LIM →
        ∃ w' mu' v', (Builtin.append_ #[t, t] ty #[vs, .slice (some ad) new.length cx]).run P V.w = .ok v' w' ∧ Ext V ⟨w', mu', bapp V.bl d, V.hid⟩ ∧ HR ⟨w', mu', bapp V.bl d, V.hid⟩ ∧ VR ⟨w', mu', bapp V.bl d, V.hid⟩ v v' ∧ ∀ j, (∀ b, d ≠ some (j, b)) → mu' j = V.mu j := by
      rintro base rfl rfl rfl hlim
      unfold LIM at hlim
      have hlen : new.length ≤ 140737488355328 := Nat.le_trans (Nat.le_mul_of_pos_right _ hb0) hlim
      have hge := grownCap_ge V.w new.length 0 e
      have run : (Builtin.append_ #[t, t] ty #[.slice base 0 0, .slice (some ad) new.length cx]).run P V.w =
          .ok (.slice (some ⟨V.w.heap.size, 0, none⟩) new.length (grownCap V.w new.length 0 e)) (V.w.drew.alloc (.cells (news.toArray ++ Builtin.zeroCells zv.cells (grownCap V.w new.length 0 e - new.length)) e)) := by
        cases base with
        | none => exact run_append_nil V.w t ty e i zv ht hi hz ad new.length cx news hl hnews h0 (by omega) (by omega)
        | some b =>
          have := run_append_grow V.w t ty e i zv ht hi hz b 0 0 [] (by simp) (fun j v hj => by simp at hj) ad new.length cx news hl hnews (by omega) (by omega) (by rw [Nat.zero_add, nextslicecap_zero h0]; omega)
          rw [Nat.zero_add] at this
          simpa using this
      have hws : (V.w.drew.alloc (.cells (news.toArray ++ Builtin.zeroCells zv.cells (grownCap V.w new.length 0 e - new.length)) e)).heap = V.w.heap.push (.cells (news.toArray ++ Builtin.zeroCells zv.cells (grownCap V.w new.length 0 e - new.length)) e) := rfl
      have hszs : grownCap V.w new.length 0 e * i.size ≤ (news.toArray ++ Builtin.zeroCells zv.cells (grownCap V.w new.length 0 e - new.length)).size := by
        simp only [Array.size_append, List.size_toArray, size_zeroCells, hzs, hl]
        rw [← Nat.add_mul]
        exact Nat.mul_le_mul_right _ (by omega)
      obtain ⟨h1, h2, h3⟩ := new_arr H hws hn R.wid hge hszs (fun i' j c hc => by
        have := getD_append_toArray (xs := []) (ys := news) (zs := Builtin.zeroCells zv.cells (grownCap V.w new.length 0 e - new.length)) (k := i' * i.size + j)
        simp only [List.length_nil, Nat.not_lt_zero, if_false, Nat.zero_add, Nat.sub_zero] at this
        have he : (([] : List Value).toArray ++ news.toArray ++ Builtin.zeroCells zv.cells (grownCap V.w new.length 0 e - new.length)) = news.toArray ++ Builtin.zeroCells zv.cells (grownCap V.w new.length 0 e - new.length) := by simp
        rw [he] at this
        rw [this]
        obtain ⟨r, hr1, hr2⟩ := rc_some hc
        have hj := (List.getElem?_eq_some_iff.1 hr2).1
        have hi' := (List.getElem?_eq_some_iff.1 hr1).1
        have hw := R.wid _ (List.mem_of_getElem? hr1)
        rw [if_pos (by rw [hl]; exact mul_lt_of hi' (by omega))]
        exact hcr i' j c hc)
      exact ⟨_, _, _, run, h1, h2, h3, fun j hj => upd_ne _ _ (ne_of_d hj)⟩
    split at h
    · split at h
      · rename_i hlim
        injection h with h
        injection h with h1 h2
        cases hcs with
        | ro hr => cases hr with
          | sc _ => exact fresh none rfl h1.symm h2.symm hlim
      · cases h
    · split at h
      · rename_i hlim
        injection h with h
        injection h with h1 h2
        cases hcs with
        | ro hr => cases hr with
          | @e0 A0 => exact fresh A0 rfl h1.symm h2.symm hlim
      · cases h
    · rename_i hh n lo len
      split at h
      · rename_i sz' rows hb
        split at h
        · rename_i hc
          obtain ⟨hc1, hc2, hc3, hc4, hc5⟩ := hc
          subst hc1 hc3 hc4
          injection h with h
          injection h with h1 h2
          subst h1 h2
          unfold LIM at hc5
          cases hcs with
          | ro hr => cases hr
          | @sl _ _ _ _ A0 cap g1 g2 g3 =>
            obtain ⟨_, hok⟩ := g3 _ _ hb
            obtain ⟨_, cap', cells, e0, fr, h5, hle, h7, hv⟩ := hok hc2
            injection hv with hv1 hv2 hv3
            injection hv1 with hv1
            subst hv1 hv3
            obtain ⟨hwid, C, e', hhp, hCs, hcell⟩ := H.at hb
            rw [hhp] at h5
            injection h5 with h5
            injection h5 with h5a h5b h5c
            subst h5a
            simp only [Nat.zero_mul]
            rw [Nat.zero_add] at h7
            have hlive : (V.bl hh).live := by rw [hb]; trivial
            have hnl : rows.length = len := hc2
            have hrl : rows.length < (rows ++ new).length := by simp; omega
            have hlen : len + new.length ≤ 140737488355328 := Nat.le_trans (Nat.le_mul_of_pos_right _ hb0) hc5
            have hcell2 : ∀ i' j c, rc (rows ++ new) i' j = some c → (i' < len ∧ j < i.size ∧ rc rows i' j = some c) ∨ (len ≤ i' ∧ i' < len + new.length ∧ j < i.size ∧ rc new (i' - len) j = some c) := by
              intro i' j c hc
              obtain ⟨r, hr1, hr2⟩ := rc_some hc
              have hj := (List.getElem?_eq_some_iff.1 hr2).1
              by_cases hlt : i' < len
              · rw [List.getElem?_append_left (by omega)] at hr1
                have hw := hwid _ (List.mem_of_getElem? hr1)
                exact .inl ⟨hlt, by omega, by unfold rc; rw [hr1]; exact hr2⟩
              · rw [List.getElem?_append_right (by omega), hnl] at hr1
                have hw := R.wid _ (List.mem_of_getElem? hr1)
                have := (List.getElem?_eq_some_iff.1 hr1).1
                exact .inr ⟨by omega, by omega, by omega, by unfold rc; rw [hr1]; exact hr2⟩
            by_cases hroom : len + new.length ≤ cap
            · -- in place
              have hfit : len * i.size + news.length ≤ C.size := by
                rw [hl, ← Nat.add_mul]
                exact Nat.le_trans (Nat.mul_le_mul_right _ hroom) h7
              have run := run_append_room' V.w t ty e e' i ht hi (V.mu hh) len cap C hhp ad new.length cx news hl hnews hone hroom hfit
              have hsz : ∀ b', b' ≠ V.mu hh → (V.w.setRow (V.mu hh) (putVals C (len * i.size) news)).heap[b']? = V.w.heap[b']? := fun b' hb' => setRow_other _ _ _ _ hb'
              have ht' : Turn V ⟨V.w.setRow (V.mu hh) (putVals C (len * i.size) news), V.mu, upd V.bl hh (.arr i.size (rows ++ new)), V.hid⟩ hh := by
                unfold Turn
                rw [hb]
                exact .inr ⟨_, upd_same _ _ _, .inr hrl⟩
              refine ⟨_, V.mu, _, run, View.write H hlive (setRow_size ..) hsz _ ht', HR.write H hlive (setRow_size ..) hsz ht' (fun V' hV' E => ?_), .one (.sl (by simp only [bapp, upd_same]; simp) hroom (fun sz'' rows'' hb'' => ?_)), fun _ _ => rfl⟩
              · subst hV'
                refine ⟨fun r hr => ?_, _, e', setRow_heap _ _ _ _ _ _ hhp, ?_, fun i' j c hc => ?_⟩
                · rcases List.mem_append.1 hr with hr | hr
                  · exact hwid r hr
                  · exact R.wid r hr
                · rw [putVals_size hfit, List.length_append, hnl, Nat.add_mul, ← hl]; exact hfit
                · rw [putVals_getD hfit]
                  rcases hcell2 i' j c hc with ⟨h1, h2, h3⟩ | ⟨h1, h2, h3, h4⟩
                  · rw [if_pos (mul_lt_of h1 h2)]
                    exact (hcell _ _ _ h3).mono E
                  · have hge : len * i.size ≤ i' * i.size := Nat.mul_le_mul_right _ h1
                    have hlt : i' * i.size + j < (len + new.length) * i.size := mul_lt_of h2 h3
                    rw [Nat.add_mul, ← hl] at hlt
                    rw [if_neg (by omega), if_pos hlt]
                    have he : i' * i.size + j - len * i.size = (i' - len) * i.size + j := by rw [Nat.sub_mul]; omega
                    rw [he]
                    exact (hcr _ _ _ h4).mono E
              · simp only [bapp, upd_same] at hb''
                injection hb'' with hb1 hb2
                subst hb1 hb2
                refine ⟨by simp [hnl], fun _ => ⟨by omega, cap, _, e', (0, 0), setRow_heap _ _ _ _ _ _ hhp, hroom, ?_, by simp⟩⟩
                rw [putVals_size hfit, Nat.zero_add]; exact h7
            · -- a new block
              have hg : cap < len + new.length := by omega
              have holds : ∀ j v, (C.toList.take (len * i.size))[j]? = some v → V.w.cell? ((⟨V.mu hh, 0, none⟩ : Addr).add j) = some v := by
                intro j v hj
                rw [List.getElem?_take] at hj
                split at hj
                · rename_i hlt
                  rw [add_spot rfl]
                  simp only [Nat.zero_add]
                  have hlt2 : j < C.size := Nat.lt_of_lt_of_le hlt (by rw [← hnl]; exact hCs)
                  rw [cell_block hhp hlt2]
                  congr 1
                  have : C.toList[j]? = some (C.getD j undef) := by simp [Array.getD, hlt2]
                  rw [this] at hj
                  injection hj
                · cases hj
              have hol : (C.toList.take (len * i.size)).length = len * i.size := by
                simp; rw [← hnl]; omega
              have hfit : Builtin.nextslicecap (len + new.length) cap * i.bytes ≤ 281474976710656 := by
                have := Nat.mul_le_mul_right i.bytes (nextslicecap_le hg)
                rw [Nat.mul_assoc] at this
                omega
              have run := run_append_grow V.w t ty e i zv ht hi hz ⟨V.mu hh, 0, none⟩ len cap _ hol holds ad new.length cx news hl hnews hg (by omega) hfit
              have hge := grownCap_ge V.w (len + new.length) cap e
              refine ⟨_, _, _, run, View.grow H rfl hb hrl, HR.grow H rfl hb hrl (fun V' hV' E ho => ?_), .one (.sl (by simp only [bapp, upd_same]; simp) hge (fun sz'' rows'' hb'' => ?_)), fun j hj => upd_ne _ _ (ne_of_d hj)⟩
              · refine ⟨fun r hr => ?_, _, e, ho, ?_, fun i' j c hc => ?_⟩
                · rcases List.mem_append.1 hr with hr | hr
                  · exact hwid r hr
                  · exact R.wid r hr
                · simp only [Array.size_append, List.size_toArray, hol, hl, List.length_append, hnl, Nat.add_mul]; omega
                · rw [getD_append_toArray, hol]
                  rcases hcell2 i' j c hc with ⟨h1, h2, h3⟩ | ⟨h1, h2, h3, h4⟩
                  · have hlt := mul_lt_of h1 h2
                    rw [if_pos hlt]
                    have hx : (C.toList.take (len * i.size)).getD (i' * i.size + j) undef = C.getD (i' * i.size + j) undef := by
                      simp [List.getD, Array.getD_eq_getD_getElem?, hlt]
                    rw [hx]
                    exact (hcell _ _ _ h3).mono E
                  · have hge' : len * i.size ≤ i' * i.size := Nat.mul_le_mul_right _ h1
                    have hlt : i' * i.size + j < (len + new.length) * i.size := mul_lt_of h2 h3
                    rw [Nat.add_mul] at hlt
                    rw [if_neg (by omega), if_pos (by rw [hl]; exact hlt)]
                    have he : i' * i.size + j - len * i.size = (i' - len) * i.size + j := by rw [Nat.sub_mul]; omega
                    rw [he]
                    exact (hcr _ _ _ h4).mono E
              · simp only [bapp, upd_same] at hb''
                injection hb'' with hb1 hb2
                subst hb1 hb2
                refine ⟨by simp [hnl], fun _ => ⟨by omega, _, _, e, (0, 0), by simp only [upd_same]; exact push_at rfl, hge, ?_, by simp only [upd_same, Nat.zero_mul]⟩⟩
                simp only [Array.size_append, List.size_toArray, hol, hl, size_zeroCells, hzs, Nat.zero_add, ← Nat.add_mul]
                exact Nat.mul_le_mul_right _ (by omega)
        · cases h
      · cases h
    · cases h

end Go.AM

namespace Go.AM

theorem int_sound {V : View} {x : AV} {v : Value} {n : Int} (h : VR V x v) (hn : intOf? x = some n) : ∃ k, v = .int k n := by
  unfold intOf? at hn
  split at hn
  · rename_i k m
    injection hn with hn
    subst hn
    exact ⟨k, toV_sound h _ rfl⟩
  · cases hn

theorem run_sliceBound {P : Program} {w : World} {k : IntKind} {i : Int} {y : Nat} {code : BoundsCode} (h0 : 0 ≤ i) (h1 : i ≤ y) : (Instr.sliceBound (.int k i) y code).run P w = .ok i.toNat w := by
  simp [Instr.sliceBound, asIntOf, h0, h1]

theorem bound_sound {V : View} {x : Option AV} {v : Option Value} (h : ∀ a b, x = some a → v = some b → VR V a b) (hs : x.isSome = v.isSome) {d n : Nat} (hb : boundA x d = some n) :
    (x = none ∧ v = none ∧ n = d) ∨ (∃ k i, v = some (.int k i) ∧ 0 ≤ i ∧ i.toNat = n) := by
  cases x with
  | none =>
    cases v with
    | none => simp only [boundA] at hb; injection hb with hb; exact .inl ⟨rfl, rfl, hb.symm⟩
    | some _ => simp at hs
  | some a =>
    cases v with
    | none => simp at hs
    | some b =>
      simp only [boundA] at hb
      split at hb
      · rename_i i hi
        obtain ⟨k, rfl⟩ := int_sound (h a b rfl rfl) hi
        split at hb
        · rename_i h0
          injection hb with hb
          exact .inr ⟨k, i, rfl, h0, hb⟩
        · cases hb
      · cases hb

/-- A bound, as it stands. -/
def BoundIs (v : Option Value) (d n : Nat) : Prop := (v = none ∧ n = d) ∨ ∃ k i, v = some (.int k i) ∧ 0 ≤ i ∧ i.toNat = n

theorem run_slice2 {P : Program} {w : World} {t e : TypeId} {sz : Nat} (ht : P.underlying t = some (.slice e)) (hsz : szOf P e = some sz) {A : Option Addr} {n cap l h : Nat} {lo hi : Option Value}
    (hl : BoundIs lo 0 l) (hh : BoundIs hi n h) (hlh : l ≤ h) (hn : h ≤ n) (hc : n ≤ cap) :
    (Instr.sliceAt t (.slice A n cap) lo hi none).run P w = .ok (.slice (if cap = l then A else A.map (·.add (l * sz))) (h - l) (cap - l)) w := by
  rcases hl with ⟨rfl, rfl⟩ | ⟨k, i, rfl, i0, i1⟩ <;> rcases hh with ⟨rfl, rfl⟩ | ⟨k', i', rfl, j0, j1⟩
  · simp [Instr.sliceAt, Instr.slice, Instr.sliceBounds, run_underlying ht, run_size hsz]
  · have hb := @run_sliceBound P w k' i' cap .sliceAcap j0 (by omega)
    rw [j1] at hb
    simp [Instr.sliceAt, Instr.slice, Instr.sliceBounds, run_underlying ht, run_size hsz, hb]
  · have hb := @run_sliceBound P w k i h .sliceB i0 (by omega)
    rw [i1] at hb
    simp [Instr.sliceAt, Instr.slice, Instr.sliceBounds, run_underlying ht, run_size hsz, hb]
  · have hb := @run_sliceBound P w k' i' cap .sliceAcap j0 (by omega)
    rw [j1] at hb
    have hb2 := @run_sliceBound P w k i h .sliceB i0 (by omega)
    rw [i1] at hb2
    simp [Instr.sliceAt, Instr.slice, Instr.sliceBounds, run_underlying ht, run_size hsz, hb, hb2]
theorem run_slice3 {P : Program} {w : World} {t e : TypeId} {sz : Nat} (ht : P.underlying t = some (.slice e)) (hsz : szOf P e = some sz) {A : Option Addr} {n cap : Nat} {lo : Option Value} {k k' : IntKind} {i i' : Int}
    (hl : BoundIs lo 0 0) (h0 : 0 ≤ i) (h1 : i.toNat = 0) (h2 : 0 ≤ i') (h3 : i'.toNat = 0) :
    (Instr.sliceAt t (.slice A n cap) lo (some (.int k i)) (some (.int k' i'))).run P w = .ok (.slice A 0 0) w := by
  have hb := @run_sliceBound P w k' i' cap .slice3Acap h2 (by omega)
  rw [h3] at hb
  have hb1 := @run_sliceBound P w k i 0 .slice3B h0 (by omega)
  rw [h1] at hb1
  rcases hl with ⟨rfl, _⟩ | ⟨k2, i2, rfl, g0, g1⟩
  · simp [Instr.sliceAt, Instr.slice, Instr.sliceBounds, run_underlying ht, run_size hsz, hb, hb1]
  · have hb2 := @run_sliceBound P w k2 i2 0 .slice3C g0 (by omega)
    rw [g1] at hb2
    simp [Instr.sliceAt, Instr.slice, Instr.sliceBounds, run_underlying ht, run_size hsz, hb, hb1, hb2]

theorem CR.sc_inv {V : View} {x v : Value} (h : CR V (.sc x) v) : v = x ∧ plainC x = true := by
  cases h with
  | ro h => cases h with | sc h => exact ⟨rfl, h⟩
theorem CR.e0_inv {V : View} {v : Value} (h : CR V .e0 v) : ∃ A, v = .slice A 0 0 := by
  cases h with
  | ro h => cases h with | e0 => exact ⟨_, rfl⟩
theorem CR.lst_inv {V : View} {sz : Nat} {rows : List (List Cell)} {v : Value} (h : CR V (.lst sz rows) v) : (rows = [] ∧ ∃ A, v = .slice A 0 0) ∨ ∃ (a : Addr) (cap : Nat) (u : Nat → Nat → Value), v = .slice (some a) rows.length cap ∧ rows.length ≤ cap ∧ a.spot = none ∧ (∀ r ∈ rows, r.length = sz) ∧
    (∀ i j c, rc rows i j = some c → ¬ own V a.block ∧ V.w.cell? ⟨a.block, a.off + (i * sz + j), none⟩ = some (u i j)) ∧ (∀ i j c, rc rows i j = some c → RO V.w (own V) c (u i j)) := by
  cases h with
  | ro h => cases h with
    | @lst sz rows a cap u h1 h2 h3 h4 h5 => exact .inr ⟨a, cap, u, rfl, h1, h2, h3, h4, h5⟩
    | nil => exact .inl ⟨rfl, _, rfl⟩
theorem rowsOf_sc {bl : Nat → Blk} {sz : Nat} {v : Value} {rows : List (List Cell)} (h : rowsOf bl sz (.sc v) = some rows) : v = .slice none 0 0 ∧ rows = [] := by
  unfold rowsOf at h
  split at h <;> first | (rename_i he; injection he with he; injection h with h; exact ⟨he, h.symm⟩) | (rename_i he; cases he) | (cases h)

theorem sliceA_sound {P : Program} {V : View} (H : HR V) {t e : TypeId} {sz : Nat} (ht : P.underlying t = some (.slice e)) (hsz : szOf P e = some sz) {c : Cell} {v : Value} (hc : CR V c v)
    {lo hi mx : Option AV} {lo' hi' mx' : Option Value} (hlo : ∀ a b, lo = some a → lo' = some b → VR V a b) (hlos : lo.isSome = lo'.isSome)
    (hhi : ∀ a b, hi = some a → hi' = some b → VR V a b) (hhis : hi.isSome = hi'.isSome) (hmx : ∀ a b, mx = some a → mx' = some b → VR V a b) (hmxs : mx.isSome = mx'.isSome) {r : AV}
    (h : sliceA V.bl sz c lo hi mx = some r) : ∃ v', (Instr.sliceAt t v lo' hi' mx').run P V.w = .ok v' V.w ∧ VR V r v' := by
  unfold sliceA at h
  split at h
  · rename_i n rows hn hr
    split at h
    · rename_i l hh hl hhh
      split at h
      · rename_i hle
        obtain ⟨A, cap, R⟩ := rowsOf_sound H hc hr
        have hv := R.val
        subst hv
        have hnn : n = rows.length := by
          rcases lenOf_sound hc hn with ⟨_, _, h1, _⟩ | ⟨h1, _⟩ | ⟨_, h1, _⟩ | ⟨_, _, _, _, h1, _⟩
          · injection h1 with _ h1; exact h1.symm
          all_goals cases h1
        subst hnn
        have hcap := R.cap_le
        have bl : BoundIs lo' 0 l := by
          rcases bound_sound hlo hlos hl with ⟨_, h1, h2⟩ | h1
          · exact .inl ⟨h1, h2⟩
          · exact .inr h1
        have bh : BoundIs hi' rows.length hh := by
          rcases bound_sound hhi hhis hhh with ⟨_, h1, h2⟩ | h1
          · exact .inl ⟨h1, h2⟩
          · exact .inr h1
        split at h
        · rename_i mxa
          split at h
          · rename_i m hia hm
            split at h
            · rename_i hz
              obtain ⟨rfl, rfl, rfl⟩ := hz
              injection h with h
              subst h
              rcases bound_sound hmx hmxs hm with ⟨h1, _⟩ | ⟨k, i, rfl, h0, h2⟩
              · cases h1
              · rcases bh with ⟨rfl, _⟩ | ⟨k', i', rfl, j0, j1⟩
                · simp at hhis
                · exact ⟨_, run_slice3 ht hsz bl j0 j1 h0 h2, .one (.ro .e0)⟩
            · cases h
          · cases h
        · cases mx' with
          | some _ => simp at hmxs
          | none =>
            have run := run_slice2 (P := P) (w := V.w) (A := A) ht hsz bl bh hle.1 hle.2 hcap
            refine ⟨_, run, ?_⟩
            split at h
            · injection h with h
              subst h
              obtain ⟨h1, h2⟩ := rowsOf_sc hr
              subst h1 h2
              obtain ⟨h3, _⟩ := hc.sc_inv
              injection h3 with hA h3 h4
              simp only [List.length_nil] at hle
              obtain rfl : l = 0 := by omega
              obtain rfl : hh = 0 := by omega
              subst hA h4
              exact .one (.ro (.sc rfl))
            · injection h with h
              subst h
              obtain ⟨A0, h3⟩ := hc.e0_inv
              injection h3 with hA h3 h4
              obtain rfl : l = 0 := by omega
              obtain rfl : hh = 0 := by omega
              subst hA h4
              exact .one (.ro .e0)
            · rename_i sz' rows'
              injection h with h
              subst h
              simp only [rowsOf] at hr
              split at hr
              · rename_i hs
                subst hs
                injection hr with hr
                subst hr
                rcases hc.lst_inv with ⟨hr0, A0, h3⟩ | ⟨a, cap', u, h3, h4, h5, h6, h7, h8⟩
                · subst hr0
                  injection h3 with hA h3 h3'
                  subst hA h3'
                  simp only [List.length_nil] at hle
                  obtain rfl : l = 0 := by omega
                  obtain rfl : hh = 0 := by omega
                  exact .one (.ro .nil)
                injection h3 with hA h3 h3'
                subst hA h3'
                refine .one (.ro ?_)
                have hlen : ((rows'.drop l).take (hh - l)).length = hh - l := by simp; omega
                have key : ∀ (a' : Addr), a'.spot = none → ((∃ i j c, rc ((rows'.drop l).take (hh - l)) i j = some c) → a' = ⟨a.block, a.off + l * sz', none⟩) →
                    RO V.w (own V) (.lst sz' ((rows'.drop l).take (hh - l))) (.slice (some a') (hh - l) (cap - l)) := by
                  intro a' hs' ha'
                  have := @RO.lst V.w (own V) sz' ((rows'.drop l).take (hh - l)) a' (cap - l) (fun i j => u (l + i) j) (by omega) hs' (fun r hr => h6 r (List.mem_of_mem_drop (List.mem_of_mem_take hr))) (fun i j c hc => ?_) (fun i j c hc => h8 _ _ _ (rc_sub hc).2)
                  · rw [hlen] at this; exact this
                  · obtain ⟨hi, hc'⟩ := rc_sub hc
                    have he := ha' ⟨i, j, c, hc⟩
                    subst he
                    obtain ⟨g1, g2⟩ := h7 _ _ _ hc'
                    refine ⟨g1, ?_⟩
                    have : a.off + l * sz' + (i * sz' + j) = a.off + ((l + i) * sz' + j) := by rw [Nat.add_mul]; omega
                    simp only [this]
                    exact g2
                split
                · rename_i hcl
                  refine key a h5 (fun ⟨i, j, c, hc⟩ => ?_)
                  obtain ⟨hi, _⟩ := rc_sub hc
                  omega
                · simp only [Option.map_some]
                  rw [add_spot h5]
                  exact key _ rfl (fun _ => rfl)
              · cases hr
            · rename_i hd n' lo' len
              split at h
              · rename_i hc1
                injection h with h
                subst h
                obtain ⟨hc1, hc2⟩ := hc1
                subst hc1
                -- an empty one, wherever it lies
                have hrn : ∀ r0 : List (List Cell), V.bl hd = .arr sz r0 → r0.length = n' → SlOk V hd sz n' lo' len (.slice A rows.length cap) := by
                  intro r0 h0 h1
                  cases hc with
                  | ro hr => cases hr
                  | sl g1 g2 g3 => exact (g3 _ _ h0).2 h1
                have hA : ∃ ad, A = some ad ∧ ad.spot = none := by
                  unfold rowsOf at hr
                  simp only at hr
                  split at hr
                  · rename_i sz' rows' hb
                    split at hr
                    · rename_i hcc
                      obtain ⟨hcc1, hcc2⟩ := hcc
                      subst hcc1
                      obtain ⟨_, _, _, _, _, _, _, _, h9⟩ := hrn _ hb hcc2
                      injection h9 with h9
                      exact ⟨_, h9, rfl⟩
                    · cases hr
                  · cases hr
                obtain ⟨ad, rfl, hsp⟩ := hA
                have hnil : ∀ (a' : Addr), a'.spot = none → VR V (.one (.lst sz [])) (.slice (some a') (l - l) (cap - l)) := by
                  intro a' hs
                  rw [Nat.sub_self]
                  exact .one (.ro (.lst (rows := []) (fun _ _ => undef) (Nat.zero_le _) hs (fun r hr => by simp at hr) (fun i j c hc => by simp [rc] at hc) (fun i j c hc => by simp [rc] at hc)))
                split
                · exact hnil ad hsp
                · simp only [Option.map_some]
                  exact hnil _ (by rw [add_spot hsp])
              · rename_i hc1
                injection h with h
                subst h
                have hA : ∃ ad, A = some ad := by
                  cases hc with
                  | ro hr => cases hr
                  | sl g1 g2 g3 => exact ⟨_, rfl⟩
                obtain ⟨ad, rfl⟩ := hA
                have hfin : ∃ ad', (if cap = l then some ad else Option.map (fun x => x.add (l * sz)) (some ad)) = some ad' := by split <;> exact ⟨_, rfl⟩
                obtain ⟨ad', hfin⟩ := hfin
                rw [hfin]
                cases hc with
                | ro hr => cases hr
                | sl g1 g2 g3 =>
                  refine .one (.sl g1 (by omega) (fun sz' r0 h0 => ?_))
                  obtain ⟨g4, g5⟩ := g3 _ _ h0
                  refine ⟨g4, fun h1 => ?_⟩
                  obtain ⟨g6, cap', cells, e', fr, g7, g8, g9, g10⟩ := g5 h1
                  injection g10 with g11 g12 g13
                  injection g11 with g11
                  subst g11 g13
                  have hsz' : sz' = sz := by
                    unfold rowsOf at hr
                    simp only at hr
                    rw [h0] at hr
                    simp only at hr
                    split at hr
                    · rename_i hcc; exact hcc.1
                    · cases hr
                  subst hsz'
                  refine ⟨by omega, cap - l, cells, e', fr, g7, by omega, ?_, ?_⟩
                  · have : lo' + l + (cap - l) = lo' + cap := by omega
                    rw [this]; exact g9
                  · rw [← hfin]
                    split
                    · rename_i hcl
                      have : l = 0 := by
                        rcases Nat.eq_zero_or_pos l with h2 | h2
                        · exact h2
                        · exact absurd ⟨by omega, h2⟩ hc1
                      subst this
                      simp
                    · simp only [Option.map_some]
                      rw [add_spot rfl, Nat.add_mul]
            · cases h
      · cases h
    · cases h
  · cases h

end Go.AM

namespace Go.AM

theorem plainKind (o : Oper) {P : Program} {V : View} (H : HR V) {env : Env} {a : Act} (R : ER V env a.tmps) {v : AV} {d : Option (Nat × Blk)} (h : plainOp P env o = some (v, d)) (hs : ∀ cs b, o.op ≠ .select cs b) :
    OpOk P V (execOp a.eval o) v d := plainOp_sound H R hs h

section
variable {P : Program} {V : View} {env : Env} {a : Act} {o : Oper} {v : AV} {d : Option (Nat × Blk)}

theorem op_move {x : Operand} (H : HR V) (R : ER V env a.tmps) : OpOk P V (pure (.value (a.eval x))) (evo env x) none := .value H rfl (evo_sound R x)

theorem OpOk.bindv {s : Sem Value} {v : AV} {d : Option (Nat × Blk)} (h : ∃ w' mu' v', s.run P V.w = .ok v' w' ∧ Ext V ⟨w', mu', bapp V.bl d, V.hid⟩ ∧ HR ⟨w', mu', bapp V.bl d, V.hid⟩ ∧ VR ⟨w', mu', bapp V.bl d, V.hid⟩ v v' ∧ ∀ j, (∀ b, d ≠ some (j, b)) → mu' j = V.mu j) :
    OpOk P V (do pure (.value (← s))) v d := by
  obtain ⟨w', mu', v', h1, h2, h3, h4, h5⟩ := h
  exact ⟨.value v', w', mu', v', by simp [h1], .inl rfl, h2, h3, h4, h5⟩
theorem OpOk.reads {s : Sem Value} {v : AV} {v' : Value} (H : HR V) (h : s.run P V.w = .ok v' V.w) (hv : VR V v v') : OpOk P V (do pure (.value (← s))) v none :=
  .bindv ⟨V.w, V.mu, v', h, Ext.refl V, H, hv, fun _ _ => rfl⟩

theorem new_val {nw : Nat} {s : Sem Value} {v : AV} {v' : Value} {w' : World} {b : Blk} (hs : s.run P V.w = .ok v' w')
    (h : Ext V ⟨w', upd V.mu nw V.w.heap.size, upd V.bl nw b, V.hid⟩ ∧ HR ⟨w', upd V.mu nw V.w.heap.size, upd V.bl nw b, V.hid⟩ ∧ VR ⟨w', upd V.mu nw V.w.heap.size, upd V.bl nw b, V.hid⟩ v v') :
    OpOk P V (do pure (.value (← s))) v (some (nw, b)) :=
  .bindv ⟨w', _, v', hs, h.1, h.2.1, h.2.2, fun _ hj => upd_ne _ _ (ne_of_d hj)⟩

theorem parts_map {ps : List (Nat × List Cell)} (R : ER V env a.tmps) {parts : Array (Nat × Operand)} (h : parts.toList.mapM (fun p => ((evo env p.2).cells).map fun cs => (p.1, cs)) = some ps) :
    PartsR V ps ((parts.map fun x => match x with | (i, x) => (i, a.eval x)).toList) := by
  have := parts_get R h
  simpa using this

theorem op_build {t : TypeId} {parts : Array (Nat × Operand)} (H : HR V) (R : ER V env a.tmps) {z : List Cell} {ps : List (Nat × List Cell)} (hz : zeroCells P t = some z)
    (hps : parts.toList.mapM (fun p => ((evo env p.2).cells).map fun cs => (p.1, cs)) = some ps) {place : Nat → Option (Nat × Nat)} {out : List Cell} (hf : fillA place z ps = some out)
    (hb : ∀ zv i, P.info? t = some i → i.zero = some zv → ∀ vs D, Instr.fill place zv.cells vs = some D → P.built t vs = some D) :
    OpOk P V (do pure (.value (← Instr.build t (parts.map fun x => match x with | (i, x) => (i, a.eval x))))) (.agg out) none := by
  obtain ⟨zv, _, hzc, i, hi, hzi⟩ := zero_sound (V := V) hz
  obtain ⟨D, hD, hc, _⟩ := fill_sound (parts_map R hps) hzc hf
  exact .reads H (run_build V.w t _ D (hb _ _ hi hzi _ _ hD)) (.agg hc.len hc.get)

theorem op_load {t : TypeId} {x : Operand} (H : HR V) (R : ER V env a.tmps) (h : (match (evo env x).cell with
    | some p => match aggB P t, szOf P t with
      | some true, some s => (rdPtr V.bl s p).map fun cs => (AV.agg cs, none)
      | some false, _ => match rdPtr V.bl 1 p with
        | some [c] => some (AV.one c, none)
        | _ => none
      | _, _ => none
    | none => none) = some (v, d)) : OpOk P V (do pure (.value (← Instr.loadAt t (a.eval x)))) v d := by
  split at h
  · rename_i p hp
    have hc := cell_sound (evo_sound R x) hp
    split at h
    · rename_i s ha hs
      obtain ⟨cs, hr, he⟩ := Option.map_eq_some_iff.1 h
      injection he with h1 h2
      subst h1 h2
      obtain ⟨ad, us, hv, hrun, hcs⟩ := run_loadVarA H hc ha hs hr
      refine .reads H ?_ (.agg hcs.len hcs.get)
      rw [hv]
      simpa [Instr.loadAt, Instr.sureAddr] using hrun
    · rename_i ha
      split at h
      · rename_i c hr
        injection h with h
        injection h with h1 h2
        subst h1 h2
        obtain ⟨ad, u, hv, hrun, hcu⟩ := run_loadVar1 H hc ha hr
        refine .reads H ?_ (.one hcu)
        rw [hv]
        simpa [Instr.loadAt, Instr.sureAddr] using hrun
      · cases h
    · cases h
  · cases h

theorem op_store {t : TypeId} {x y : Operand} (H : HR V) (R : ER V env a.tmps) (h : (match (evo env x).cell, (evo env y).cells with
    | some p, some cs => if szOf P t = some cs.length then (wrPtr V.bl cs p).map fun d => (AV.und, some d) else none
    | _, _ => none) = some (v, d)) : OpOk P V (do Instr.storeAt t (a.eval x) (a.eval y); pure .skip) v d := by
  split at h
  · rename_i p cs hp hcs
    split at h
    · rename_i hs
      obtain ⟨d', hw, he⟩ := Option.map_eq_some_iff.1 h
      injection he with h1 h2
      subst h1 h2
      obtain ⟨hd, b⟩ := d'
      have hc := cell_sound (evo_sound R x) hp
      have hcs' := cells_sound (evo_sound R y) hcs
      obtain ⟨ad, w', hv, hrun, hE, hH⟩ := wrPtr_sound (P := P) H hc hcs' hw
      refine ⟨.skip, w', V.mu, undef, ?_, .inr ⟨rfl, rfl⟩, hE, hH, .und, fun _ _ => rfl⟩
      rw [hv]
      have hsz := hcs'.len
      simp [Instr.storeAt, Instr.sureAddr, storeVar, run_size hs, hsz, hrun]
    · cases h
  · cases h

theorem op_indexAddr {t : TypeId} {x ix : Operand} (H : HR V) (R : ER V env a.tmps) (h : (match P.underlying t, (evo env x).cell, intOf? (evo env ix) with
    | some (.slice e), some c, some i =>
      match szOf P e with
      | some s => match lenOf V.bl c, rowsOf V.bl s c with
        | some n, some _ => if 0 ≤ i ∧ i < n then some (AV.one (.ep c s i.toNat 0), none) else none
        | _, _ => none
      | none => none
    | some (.array n e), some (.bp h off), some i => match szOf P e with
      | some s => if 0 ≤ i ∧ i < n then some (AV.one (.bp h (off + i.toNat * s)), none) else none
      | none => none
    | _, _, _ => none) = some (v, d)) : OpOk P V (do pure (.value (← Instr.indexAt t (a.eval x) (a.eval ix)))) v d := by
  split at h
  · rename_i e c i ht hx hi
    obtain ⟨k, hk⟩ := int_sound (evo_sound R ix) hi
    have hc := cell_sound (evo_sound R x) hx
    split at h
    · rename_i s hs
      split at h
      · rename_i n rows hn hr
        split at h
        · rename_i hb
          injection h with h
          injection h with h1 h2
          subst h1 h2
          obtain ⟨A, cap, RA⟩ := rowsOf_sound H hc hr
          have hv := RA.val
          have hnl : rows.length = n := by
            rcases lenOf_sound hc hn with ⟨_, _, h1, _⟩ | ⟨h1, _⟩ | ⟨_, h1, _⟩ | ⟨_, _, _, _, h1, _⟩
            · rw [hv] at h1; injection h1
            all_goals rw [hv] at h1; cases h1
          have hne : rows ≠ [] := by intro h0; subst h0; simp at hnl; omega
          obtain ⟨ad, rfl⟩ := RA.addr hne
          have hsp := RA.spot ad rfl hne
          refine .reads H (v' := .pointer (some ⟨ad.block, ad.off + (i.toNat * s + 0), none⟩)) ?_ (.one (.ep (hv ▸ hc) hsp))
          rw [hv, hk]
          have hlt : i < (rows.length : Int) := by omega
          have ha := add_spot hsp (i.toNat * s)
          simp [Instr.indexAt, asIntOf, run_underlying ht, hb.1, hlt, run_size hs, ha]
        · cases h
      · cases h
    · cases h
  · rename_i n e hh off i ht hx hi
    obtain ⟨k, hk⟩ := int_sound (evo_sound R ix) hi
    have hc := cell_sound (evo_sound R x) hx
    split at h
    · rename_i s hs
      split at h
      · rename_i hb
        injection h with h
        injection h with h1 h2
        subst h1 h2
        generalize hvx : a.eval x = vx at hc ⊢
        cases hc with
        | ro hr => cases hr
        | @bp _ _ b g1 g3 =>
          refine .reads H (v' := .pointer (some ⟨b, off + i.toNat * s, none⟩)) ?_ (.one (.bp g1 g3))
          rw [hk]
          have ha := add_spot (a := ⟨b, off, none⟩) rfl (i.toNat * s)
          simp [Instr.indexAt, Instr.sureAddr, asIntOf, run_underlying ht, hb.1, hb.2, run_size hs, ha]
      · cases h
    · cases h
  · cases h
end

end Go.AM

namespace Go.AM
section
variable {P : Program} {V : View} {env : Env} {a : Act} {o : Oper} {v : AV} {d : Option (Nat × Blk)}

theorem op_fieldAddr {s : TypeId} {x : Operand} {f : Nat} (H : HR V) (R : ER V env a.tmps) (h : (match P.underlying s, (evo env x).cell with
    | some (.struct fields), some p => match fields[f]? with
      | some fl => match szOf P fl.type with
        | some (_ + 1) => match p with
          | .bp h off => some (AV.one (.bp h (off + fl.offset)), none)
          | .ep a sz i off => some (AV.one (.ep a sz i (off + fl.offset)), none)
          | _ => none
        | _ => none
      | none => none
    | _, _ => none) = some (v, d)) : OpOk P V (do pure (.value (← Instr.fieldAt s (a.eval x) f))) v d := by
  split at h
  · rename_i fields p hu hp
    have hc := cell_sound (evo_sound R x) hp
    split at h
    · rename_i fl hf
      split at h
      · rename_i n hs
        generalize hvx : a.eval x = vx at hc ⊢
        split at h
        · rename_i hh off
          injection h with h
          injection h with h1 h2
          subst h1 h2
          cases hc with
          | ro hr => cases hr
          | @bp _ _ b g1 g3 =>
            refine .reads H (v' := .pointer (some ⟨b, off + fl.offset, none⟩)) ?_ (.one (.bp g1 g3))
            have ha := add_spot (a := ⟨b, off, none⟩) rfl fl.offset
            simp [Instr.fieldAt, Instr.sureAddr, run_underlying hu, hf, fieldPlace, run_size hs, ha]
        · rename_i q sz i off
          injection h with h
          injection h with h1 h2
          subst h1 h2
          cases hc with
          | ro hr => cases hr
          | @ep _ _ _ _ A n' cap g1 g2 =>
            refine .reads H (v' := .pointer (some ⟨A.block, A.off + (i * sz + (off + fl.offset)), none⟩)) ?_ (.one (.ep g1 g2))
            have ha := add_spot (a := ⟨A.block, A.off + (i * sz + off), none⟩) rfl fl.offset
            have he : A.off + (i * sz + off) + fl.offset = A.off + (i * sz + (off + fl.offset)) := by omega
            simp only [he] at ha
            simp [Instr.fieldAt, Instr.sureAddr, run_underlying hu, hf, fieldPlace, run_size hs, ha]
        · cases h
      · cases h
    · cases h
  · cases h

theorem csr_mid {cs : List Cell} {us : Array Value} (h : CSR V cs us) {o s : Nat} (hle : o + s ≤ cs.length) : CSR V ((cs.drop o).take s) (us.extract o (o + s)) := by
  have hl := h.len
  refine ⟨by simp; omega, fun i c hi => ?_⟩
  rw [List.getElem?_take] at hi
  split at hi
  · rename_i hlt
    rw [List.getElem?_drop] at hi
    have := h.get _ _ hi
    have e : (us.extract o (o + s)).getD i undef = us.getD (o + i) undef := by
      simp only [Array.getD_eq_getD_getElem?, Array.getElem?_extract]
      rw [if_pos (by omega)]
    rw [e]; exact this
  · cases hi

theorem run_part {t : TypeId} {cs : List Cell} {us : Array Value} (h : CSR V cs us) {off : Nat} {r : AV} (hr : (match aggB P t, szOf P t with
        | some true, some s => if off + s ≤ cs.length then some (AV.agg ((cs.drop off).take s)) else none
        | some false, _ => (cs[off]?).map fun c => AV.one c
        | _, _ => none) = some r) : ∃ v', (part t us off).run P V.w = .ok v' V.w ∧ VR V r v' := by
  split at hr
  · rename_i s ha hs
    split at hr
    · rename_i hle
      injection hr with hr
      subst hr
      have := csr_mid h hle
      exact ⟨.agg (us.extract off (off + s)), by simp [part, run_isAgg ha, run_size hs], .agg this.len this.get⟩
    · cases hr
  · rename_i ha
    obtain ⟨c, hc, rfl⟩ := Option.map_eq_some_iff.1 hr
    have hl := h.len
    have hlt := (List.getElem?_eq_some_iff.1 hc).1
    have hg := h.get _ _ hc
    have hx := getD_lt (C := us) (i := off) (by omega)
    generalize us.getD off undef = u at hg hx
    exact ⟨u, by simp [part, run_isAgg ha, hx], .one hg⟩
  · cases hr

theorem op_field {t : TypeId} {x : Operand} {f : Nat} (H : HR V) (R : ER V env a.tmps) (h : (match P.underlying t, evo env x with
    | some (.struct fields), .agg cs => match fields[f]? with
      | some fl => match aggB P fl.type, szOf P fl.type with
        | some true, some s => if fl.offset + s ≤ cs.length then some (AV.agg ((cs.drop fl.offset).take s), none) else none
        | some false, _ => (cs[fl.offset]?).map fun c => (AV.one c, none)
        | _, _ => none
      | none => none
    | _, _ => none) = some (v, d)) : OpOk P V (do pure (.value (← Instr.field t (a.eval x) f))) v d := by
  split at h
  · rename_i fields cs hu hx
    have hv := evo_sound R x
    rw [hx] at hv
    generalize hvx : a.eval x = vx at hv ⊢
    cases hv with
    | @agg _ us h1 h2 =>
      split at h
      · rename_i fl hf
        have hd : d = none ∧ (match aggB P fl.type, szOf P fl.type with
          | some true, some s => if fl.offset + s ≤ cs.length then some (AV.agg ((cs.drop fl.offset).take s)) else none
          | some false, _ => (cs[fl.offset]?).map fun c => AV.one c
          | _, _ => none) = some v := by
          revert h
          split
          · split
            · intro h; injection h with h; injection h with h1 h2; exact ⟨h2.symm, by rw [h1]⟩
            · intro h; cases h
          · intro h
            obtain ⟨c, hc, he⟩ := Option.map_eq_some_iff.1 h
            injection he with h1 h2
            exact ⟨h2.symm, by rw [hc, ← h1]; rfl⟩
          · intro h; cases h
        obtain ⟨rfl, hr⟩ := hd
        obtain ⟨v', hrun, hvr⟩ := run_part (P := P) ⟨h1, h2⟩ hr
        refine .reads H ?_ hvr
        simp [Instr.field, run_underlying hu, hf, asAgg, hrun]
      · cases h
  · cases h

theorem op_index {t : TypeId} {x ix : Operand} (H : HR V) (R : ER V env a.tmps) (ho : o.op = .index t x ix) (h : (match P.underlying t, evo env x, intOf? (evo env ix) with
    | some (.array n e), .agg cs, some i => if 0 ≤ i ∧ i < n then
        match aggB P e, szOf P e with
        | some true, some s => if i.toNat * s + s ≤ cs.length then some (AV.agg ((cs.drop (i.toNat * s)).take s), none) else none
        | some false, some s => (cs[i.toNat * s]?).map fun c => (AV.one c, none)
        | _, _ => none
      else none
    | _, _, _ => plainOp P env o) = some (v, d)) : OpOk P V (execOp a.eval o) v d := by
  split at h
  · rename_i n e cs i hu hx hi
    obtain ⟨k, hk⟩ := int_sound (evo_sound R ix) hi
    have hv := evo_sound R x
    rw [hx] at hv
    split at h
    · rename_i hb
      have he : execOp a.eval o = (do pure (.value (← Instr.index t (a.eval x) (a.eval ix)))) := by unfold execOp; rw [ho]
      rw [he]
      generalize hvx : a.eval x = vx at hv ⊢
      cases hv with
      | @agg _ us h1 h2 =>
        have hsd : ∃ s, szOf P e = some s ∧ d = none ∧ (match aggB P e, szOf P e with
            | some true, some s' => if i.toNat * s + s' ≤ cs.length then some (AV.agg ((cs.drop (i.toNat * s)).take s')) else none
            | some false, _ => (cs[i.toNat * s]?).map fun c => AV.one c
            | _, _ => none) = some v := by
          split at h
          · rename_i s ha hs
            split at h
            · rename_i hle
              injection h with h; injection h with h1 h2
              exact ⟨s, hs, h2.symm, by rw [ha, hs]; simp only [if_pos hle, h1]⟩
            · cases h
          · rename_i s ha hs
            obtain ⟨c, hc, he⟩ := Option.map_eq_some_iff.1 h
            injection he with h1 h2
            exact ⟨s, hs, h2.symm, by rw [ha]; simp only [hc, ← h1]; rfl⟩
          · cases h
        obtain ⟨s, hs, rfl, hr⟩ := hsd
        obtain ⟨v', hrun, hvr⟩ := run_part (P := P) ⟨h1, h2⟩ hr
        refine .reads H ?_ hvr
        rw [hk]
        simp [Instr.index, asIntOf, run_underlying hu, hb.1, hb.2, run_size hs, hrun]
    · cases h
  · exact plainOp_sound H R (by rw [ho]; intro _ _ h; cases h) h

theorem op_slice {t : TypeId} {x : Operand} {lo hi mx : Option Operand} (H : HR V) (R : ER V env a.tmps) (h : (match P.underlying t, (evo env x).cell with
    | some (.slice e), some c => match szOf P e with
      | some s => (sliceA V.bl s c (lo.map (evo env)) (hi.map (evo env)) (mx.map (evo env))).map fun v => (v, none)
      | none => none
    | _, _ => none) = some (v, d)) : OpOk P V (do pure (.value (← Instr.sliceAt t (a.eval x) (lo.map a.eval) (hi.map a.eval) (mx.map a.eval)))) v d := by
  split at h
  · rename_i e c hu hx
    have hc := cell_sound (evo_sound R x) hx
    split at h
    · rename_i s hs
      obtain ⟨r, hr, he⟩ := Option.map_eq_some_iff.1 h
      injection he with h1 h2
      subst h1 h2
      have key : ∀ (y : Option Operand), (∀ p q, y.map (evo env) = some p → y.map a.eval = some q → VR V p q) ∧ (y.map (evo env)).isSome = (y.map a.eval).isSome := by
        intro y
        cases y with
        | none => exact ⟨(fun p q h => by cases h), rfl⟩
        | some y => exact ⟨fun p q h1 h2 => by simp at h1 h2; subst h1 h2; exact evo_sound R y, rfl⟩
      obtain ⟨v', hrun, hvr⟩ := sliceA_sound (P := P) H hu hs hc (key lo).1 (key lo).2 (key hi).1 (key hi).2 (key mx).1 (key mx).2 hr
      exact .reads H hrun hvr
    · cases h
  · cases h

theorem op_cells {l : Array Operand} {p : List Cell} (R : ER V env a.tmps) (h : l.toList.mapM (fun x => (evo env x).cell) = some p) : p.length = (l.map a.eval).size ∧ ∀ i c, p[i]? = some c → CR V c ((l.map a.eval).getD i undef) := by
  obtain ⟨h1, h2⟩ := mapM_get h
  refine ⟨by simpa using h1, fun i c hc => ?_⟩
  have hlt : i < l.toList.length := by have := (List.getElem?_eq_some_iff.1 hc).1; omega
  obtain ⟨y, hy, hy2⟩ := h2 i _ (List.getElem?_eq_getElem hlt)
  rw [hc] at hy2
  injection hy2 with hy2
  subst hy2
  have := cell_sound (evo_sound R _) hy
  have hlt' : i < l.size := by simpa using hlt
  simpa [Array.getD, hlt'] using this

theorem op_makeSlice {t : TypeId} {l c : Operand} (H : HR V) (R : ER V env a.tmps) {nw : Nat} (hn : V.bl nw = .none) (h : (match P.underlying t, intOf? (evo env l), intOf? (evo env c) with
    | some (.slice e), some l, some c =>
      match zeroCells P e, P.info? e with
      | some z, some i => if 0 ≤ l ∧ l ≤ c ∧ 0 < z.length ∧ z.length = i.size ∧ i.bytes * c ≤ 140737488355328 ∧ c ≤ 140737488355328 then
          some (AV.one (.sl nw l.toNat 0 l.toNat), some (nw, Blk.arr z.length (List.replicate l.toNat z)))
        else none
      | _, _ => none
    | _, _, _ => none) = some (v, d)) : OpOk P V (do pure (.value (← Instr.makeSlice t (a.eval l) (a.eval c)))) v d := by
  split at h
  · rename_i e ln cn hu hl hc
    obtain ⟨kl, hkl⟩ := int_sound (evo_sound R l) hl
    obtain ⟨kc, hkc⟩ := int_sound (evo_sound R c) hc
    split at h
    · rename_i z i hz hi
      split at h
      · rename_i hcond
        obtain ⟨h1, h2, h3, h4, h5, h6⟩ := hcond
        injection h with h
        injection h with hv hd
        subst hv hd
        obtain ⟨zv, _, hzc, i', hi', hzi⟩ := zero_sound (V := V) hz
        rw [hi] at hi'
        injection hi' with hi'
        subst hi'
        rw [hkl, hkc]
        have run := run_make (P := P) V.w t e i zv hu hi hzi kl kc ln cn h1 h2 (by omega) (by omega)
        have hcz := csr_zeros hzc h3 cn.toNat (cn.toNat * i.size) (by rw [h4])
        have hrep : (List.replicate ln.toNat z).length = ln.toNat := by simp
        have hcs := hcz.len
        have hfl : (List.replicate cn.toNat z).flatten.length = cn.toNat * z.length := by simp
        obtain ⟨g1, g2, g3⟩ := new_arr (w' := V.w.alloc (.cells (madeCells zv.cells (cn.toNat * i.size)) e)) H rfl hn (sz := z.length) (rows := List.replicate ln.toNat z) (cap := cn.toNat)
          (fun r hr => by rw [List.eq_of_mem_replicate hr]) (by rw [hrep]; omega) (by simp [size_madeCells, h4]) (fun i' j c' hc' => by
            obtain ⟨r, hr1, hr2⟩ := rc_some hc'
            have hri := (List.getElem?_eq_some_iff.1 hr1).1
            rw [hrep] at hri
            have hre : r = z := by rw [List.getElem?_replicate] at hr1; split at hr1 <;> simp_all
            subst hre
            have hj := (List.getElem?_eq_some_iff.1 hr2).1
            have hlt : i' < cn.toNat := by omega
            have hm : madeCells zv.cells (cn.toNat * i.size) = (Array.range (cn.toNat * i.size)).map (fun k => zv.cells[k % zv.cells.size]!) := rfl
            rw [hm]
            refine hcz.get _ _ ?_
            have gen : ∀ (n i' : Nat), i' < n → (List.replicate n r).flatten[i' * r.length + j]? = r[j]? := by
              intro n
              induction n with
              | zero => intro i' h; omega
              | succ n ih =>
                intro i' h
                rw [List.replicate_succ, List.flatten_cons]
                cases i' with
                | zero => rw [Nat.zero_mul, Nat.zero_add, List.getElem?_append_left hj]
                | succ i' =>
                  rw [List.getElem?_append_right (by rw [Nat.add_mul]; omega)]
                  have he : (i' + 1) * r.length + j - r.length = i' * r.length + j := by rw [Nat.add_mul]; omega
                  rw [he]
                  exact ih i' (by omega)
            rw [gen _ _ hlt]; exact hr2)
        refine new_val run ⟨g1, g2, ?_⟩
        rw [hrep] at g3
        exact g3
      · cases h
    · cases h
  · cases h

theorem op_buildSlice {t : TypeId} {len : Nat} {parts : Array (Nat × Operand)} (H : HR V) (R : ER V env a.tmps) {nw : Nat} (hn : V.bl nw = .none) (h : (match P.underlying t, parts.toList.mapM (fun p => ((evo env p.2).cells).map fun cs => (p.1, cs)) with
    | some (.slice e), some ps =>
      match zeroCells P e with
      | some z => if 0 < z.length ∧ len * z.length ≤ 2 ^ 24 ∧ szOf P e = some z.length then
          (fillA (fun i => some (i * z.length, z.length)) (List.replicate len z).flatten ps).map fun cs =>
            (AV.one (.sl nw len 0 len), some (nw, Blk.arr z.length (chunk z.length len cs)))
        else none
      | none => none
    | _, _ => none) = some (v, d)) : OpOk P V (do pure (.value (← Instr.buildSlice t len (parts.map fun x => match x with | (i, x) => (i, a.eval x))))) v d := by
  split at h
  · rename_i e ps hu hps
    split at h
    · rename_i z hz
      split at h
      · rename_i hcond
        obtain ⟨h0, h1, h2⟩ := hcond
        obtain ⟨cs, hf, he⟩ := Option.map_eq_some_iff.1 h
        injection he with hv hd
        subst hv hd
        obtain ⟨zv, hrz, hzc, i, hi, hzi⟩ := zero_sound (V := V) hz
        have hcz := csr_zeros hzc h0 len (len * z.length) rfl
        obtain ⟨D, hD, hc, hlen⟩ := fill_sound (parts_map R hps) hcz hf
        have hclen : cs.length = len * z.length := by rw [hlen]; simp
        have hDs : D.size = len * z.length := by have := hc.len; omega
        obtain ⟨g1, g2, g3⟩ := new_arr (w' := { V.w with heap := V.w.heap.push (.cells D e) }) (us := D) (e := e) H rfl hn (sz := z.length) (rows := chunk z.length len cs) (cap := len)
          (chunk_wid _ _ _ (by omega)) (by rw [chunk_length]; exact Nat.le_refl _) (by omega) (fun i' j c' hc' => hc.get _ _ (chunk_get _ _ _ _ _ _ hc').2.2)
        rw [chunk_length] at g3
        refine new_val ?_ ⟨g1, g2, g3⟩
        have hle : ¬ (16777216 < len * z.length) := by omega
        generalize (parts.map fun x => match x with | (i, x) => (i, a.eval x)) = PV at hD ⊢
        by_cases hl0 : len * z.length = 0
        · have hln : len = 0 := by
            rcases Nat.mul_eq_zero.1 hl0 with h | h
            · exact h
            · omega
          subst hln
          simp only [Nat.zero_mul] at hD
          have hr0 : (Array.range 0) = #[] := rfl
          simp only [hr0, Array.map_empty] at hD
          simp [Instr.buildSlice, run_underlying hu, run_size h2, hr0, hD, newRow, newObj, Sem.run]
        · simp [Instr.buildSlice, run_underlying hu, run_size h2, hle, hl0, hrz, hD, newRow, newObj, Sem.run]
      · cases h
    · cases h
  · cases h

end
end Go.AM

namespace Go.AM
section
variable {P : Program}
theorem evb {α β : Type} {s : Sem α} {k : α → Sem β} : ev P (s >>= k) = (ev P s).bind (fun a => ev P (k a)) := by
  show ev P (Sem.bind s k) = _
  induction s with
  | pure b => simp [Sem.bind, ev]
  | program g ih => simp only [Sem.bind, ev]; exact ih P
  | mark m g ih => simp only [Sem.bind, ev]; exact ih
  | _ => simp [Sem.bind, ev]
/-- Two lists of entries with the same keys. -/
def SameKeys : List MapEntry → List MapEntry → Prop
  | [], [] => True
  | a :: l, b :: r => a.key = b.key ∧ SameKeys l r
  | _, _ => False
theorem findNow_same {d : TypeDesc} {k : Value} : ∀ {es es' : List MapEntry} {n : Nat}, SameKeys es es' →
    (match Instr.findNow d k es n with
    | none => Instr.findNow d k es' n = none
    | some none => Instr.findNow d k es' n = some none
    | some (some (i, _)) => n ≤ i ∧ ∃ m, es'[i - n]? = some m ∧ Instr.findNow d k es' n = some (some (i, m.val))) := by
  intro es
  induction es with
  | nil => intro es' n h; cases es' with
    | nil => rfl
    | cons => exact h.elim
  | cons e es ih =>
    intro es' n h
    cases es' with
    | nil => exact h.elim
    | cons e' es' =>
      obtain ⟨h1, h2⟩ := h
      rw [Instr.findNow, Instr.findNow, ← h1]
      cases hs : Instr.sameNow d k e.key with
      | none => simp
      | some b => cases b with
        | true => simp
        | false =>
          simp only
          have := ih (n := n + 1) h2
          cases hf : Instr.findNow d k es (n + 1) with
          | none => rw [hf] at this; exact this
          | some r => cases r with
            | none => rw [hf] at this; exact this
            | some x =>
              obtain ⟨i, v⟩ := x
              rw [hf] at this
              obtain ⟨h3, m, h4, h5⟩ := this
              refine ⟨by omega, m, ?_, h5⟩
              rw [show i - n = (i - (n + 1)) + 1 by omega, List.getElem?_cons_succ]
              exact h4
def FoundIn (es' : List MapEntry) (n : Nat) (s : Option (Option (Nat × Value))) : Option (Nat × Value) → Prop
  | none => s = some none
  | some (i, _) => n ≤ i ∧ ∃ m, es'[i - n]? = some m ∧ s = some (some (i, m.val))
theorem findAsking_same {kt : TypeId} {k : Value} : ∀ {es es' : List MapEntry} {n : Nat} {r : Option (Nat × Value)}, SameKeys es es' → ev P (Instr.findAsking kt k es n) = some r →
    FoundIn es' n (ev P (Instr.findAsking kt k es' n)) r := by
  intro es
  induction es with
  | nil => intro es' n r h hr; cases es' with
    | nil => simp only [Instr.findAsking, pure, ev] at hr ⊢; injection hr with hr; subst hr; rfl
    | cons => exact h.elim
  | cons e es ih =>
    intro es' n r h hr
    cases es' with
    | nil => exact h.elim
    | cons e' es' =>
      obtain ⟨h1, h2⟩ := h
      rw [Instr.findAsking, evb] at hr
      rw [Instr.findAsking, evb, ← h1]
      cases he : ev P (Op.equal kt k e.key) with
      | none => rw [he] at hr; cases hr
      | some b =>
        rw [he] at hr
        simp only [Option.bind_some] at hr ⊢
        cases b with
        | true =>
          simp only [if_true, pure, ev] at hr ⊢
          injection hr with hr; subst hr
          exact ⟨Nat.le_refl _, e', by simp, rfl⟩
        | false =>
          simp only [Bool.false_eq_true, if_false] at hr ⊢
          have := ih (n := n + 1) h2 hr
          cases r with
          | none => exact this
          | some x =>
            obtain ⟨i, v⟩ := x
            obtain ⟨h3, m, h4, h5⟩ := this
            refine ⟨by omega, m, ?_, h5⟩
            rw [show i - n = (i - (n + 1)) + 1 by omega, List.getElem?_cons_succ]
            exact h4
theorem findKey_same {kt : TypeId} {k : Value} {es es' : List MapEntry} {r : Option (Nat × Value)} (h : SameKeys es es') (hr : ev P (Instr.findKey kt k es) = some r) :
    FoundIn es' 0 (ev P (Instr.findKey kt k es')) r := by
  unfold Instr.findKey at hr ⊢
  rw [evb] at hr
  rw [evb]
  cases hu : ev P (underlying kt) with
  | none => rw [hu] at hr; cases hr
  | some d =>
    rw [hu] at hr
    simp only [Option.bind_some] at hr ⊢
    have hn := findNow_same (d := d) (k := k) (n := 0) h
    cases hf : Instr.findNow d k es 0 with
    | none =>
      rw [hf] at hr hn
      simp only at hr hn
      rw [hn]
      exact findAsking_same h hr
    | some q =>
      rw [hf] at hr hn
      simp only [pure, ev] at hr
      injection hr with hr
      subst hr
      cases q with
      | none => simp only at hn; rw [hn]; rfl
      | some x =>
        obtain ⟨i, v⟩ := x
        obtain ⟨h3, m, h4, h5⟩ := hn
        refine ⟨h3, m, h4, ?_⟩
        rw [h5]
        rfl
end
section
variable {P : Program} {V : View} {env : Env} {a : Act} {v : AV} {d : Option (Nat × Blk)}
theorem sameKeys_of : ∀ {ents : List (Value × AV)} {l : List MapEntry}, ents.length = l.length → (∀ (i : Nat) (k : Value) (x : AV), ents[i]? = some (k, x) → ∃ m : MapEntry, l[i]? = some m ∧ m.key = k) → SameKeys (ents.map mkEnt) l := by
  intro ents
  induction ents with
  | nil => intro l hl _; cases l with
    | nil => trivial
    | cons => simp at hl
  | cons e ents ih =>
    intro l hl h
    cases l with
    | nil => simp at hl
    | cons m l =>
      refine ⟨?_, ih (by simpa using hl) (fun i k x hx => h (i + 1) k x (by simpa using hx))⟩
      obtain ⟨m', h1, h2⟩ := h 0 e.1 e.2 rfl
      simp at h1
      subst h1
      exact h2.symm
theorem getObj_map {w : World} {r : Nat} {es : Array MapEntry} {clock : Nat} (hb : w.heap[r]? = some (.map es clock)) : (getObj r).run P w = .ok (.map es clock) w := by
  simp [getObj, Sem.run, hb]
theorem setObj_map {w : World} {r : Nat} {es : Array MapEntry} {clock : Nat} (o : Obj) (hb : w.heap[r]? = some (.map es clock)) : (setObj r o).run P w = .ok () { w with heap := w.heap.setIfInBounds r o } := by
  simp [setObj, Sem.run, hb]
/-- What is found, in the map's own entries. -/
theorem find_sound {kt : TypeId} {k : Value} {ents : List (Value × AV)} {es : Array MapEntry} (hl : es.size = ents.length) (he : ∀ (i : Nat) (k : Value) (x : AV), ents[i]? = some (k, x) → ∃ m : MapEntry, es[i]? = some m ∧ (m.key = k ∧ m.born = i) ∧ VR V x m.val)
    {r : Option Nat} (h : mapFind P kt k ents = some r) : match (generalizing := false) r with
      | none => ∀ w, (Instr.findKey kt k es.toList).run P w = .ok none w
      | some i => ∃ m e, es[i]? = some m ∧ ents[i]? = some e ∧ m.key = e.1 ∧ m.born = i ∧ VR V e.2 m.val ∧ ∀ w, (Instr.findKey kt k es.toList).run P w = .ok (some (i, m.val)) w := by
  unfold mapFind at h
  obtain ⟨q, hq, hr⟩ := Option.map_eq_some_iff.1 h
  have hs : SameKeys (ents.map mkEnt) es.toList := sameKeys_of (by simp [hl]) (fun i k x hx => let ⟨m, h1, h2, _⟩ := he i k x hx; ⟨m, by simpa using h1, h2.1⟩)
  have hf := findKey_same hs hq
  cases q with
  | none =>
    simp at hr
    subst hr
    exact fun w => ev_run hf w
  | some x =>
    obtain ⟨i, u⟩ := x
    simp at hr
    subst hr
    obtain ⟨_, m, h1, h2⟩ := hf
    have h1 : es[i]? = some m := by simpa using h1
    have hi : i < ents.length := by rw [← hl]; exact (Array.getElem?_eq_some_iff.1 h1).1
    obtain ⟨e, h3⟩ : ∃ e, ents[i]? = some e := ⟨_, List.getElem?_eq_getElem hi⟩
    obtain ⟨m', h4, h5, h6⟩ := he i e.1 e.2 h3
    rw [h1] at h4
    injection h4 with h4
    subst h4
    exact ⟨m, e, h1, h3, h5.1, h5.2, h6, fun w => ev_run h2 w⟩
theorem zeroAV_sound {t : TypeId} {z : AV} (h : zeroAV P t = some z) : ∃ zv, (∀ w, (zeroValue t).run P w = .ok zv w) ∧ VR V z zv := by
  unfold zeroAV at h
  split at h
  · rename_i i hi
    split at h
    · rename_i v hv
      exact ⟨v, fun w => by simp [zeroValue, typeInfo, Sem.run, hi, hv], ofV1_sound h⟩
    · cases h
  · cases h
theorem vr_pair {x : AV} {u : Value} {b : Bool} (h : VR V x u) : VR V (.tup [x, .one (.sc (.bool b))]) (.tuple #[u, .bool b]) := by
  refine .tup rfl (fun i y hy => ?_)
  match i with
  | 0 => simp at hy; subst hy; exact h
  | 1 => simp at hy; subst hy; exact .one (.ro (.sc rfl))
  | i + 2 => simp at hy
/-- The map's entries. -/
theorem ents_sound (H : HR V) {m : Cell} {mv : Value} (hc : CR V m mv) {ents : List (Value × AV)} (h : entsOf V.bl m = some ents) :
    (mv = .map none ∧ ents = []) ∨ ∃ hh es, m = .mp hh ∧ V.bl hh = .map ents ∧ mv = .map (some (V.mu hh)) ∧ V.w.heap[V.mu hh]? = some (.map es ents.length) ∧ es.size = ents.length ∧
      ∀ (i : Nat) (k : Value) (x : AV), ents[i]? = some (k, x) → ∃ m : MapEntry, es[i]? = some m ∧ (m.key = k ∧ m.born = i) ∧ VR V x m.val := by
  unfold entsOf at h
  split at h
  · injection h with h
    subst h
    cases hc with
    | ro hr => cases hr; exact .inl ⟨rfl, rfl⟩
  · rename_i hh
    split at h
    · rename_i es hb
      injection h with h
      subst h
      have hb' := H.at hb
      obtain ⟨es', cl, h1, ⟨h2, h3⟩, h4⟩ := hb'
      subst h3
      cases hc with
      | ro hr => cases hr
      | mp g1 g2 =>
        have := g2 _ hb
        subst this
        exact .inr ⟨hh, es', rfl, hb, rfl, h1, h2, h4⟩
    · cases h
  · cases h
theorem op_lookup {t : TypeId} {x ix : Operand} {ok : Bool} (H : HR V) (R : ER V env a.tmps) (h : (match (evo env x).cell, (evo env ix).toV with
    | some m, some k => (lookupA P V.bl t m k ok).map fun v => (v, none)
    | _, _ => none) = some (v, d)) : OpOk P V (do pure (.value (← Instr.lookup t (a.eval x) (a.eval ix) ok))) v d := by
  split at h
  · rename_i m k hm hk
    obtain ⟨r, hr, he⟩ := Option.map_eq_some_iff.1 h
    injection he with h1 h2
    subst h1 h2
    have hc := cell_sound (evo_sound R x) hm
    have hkv := toV_sound (evo_sound R ix) _ hk
    rw [hkv]
    unfold lookupA at hr
    split at hr
    · rename_i kt vt ents hu hents
      have key : ∃ es : Array MapEntry, es.isEmpty = ents.isEmpty ∧ es.size = ents.length ∧ (∀ (i : Nat) (k : Value) (x : AV), ents[i]? = some (k, x) → ∃ m : MapEntry, es[i]? = some m ∧ (m.key = k ∧ m.born = i) ∧ VR V x m.val) ∧
          ((a.eval x = .map none ∧ es = #[]) ∨ ∃ b cl, a.eval x = .map (some b) ∧ V.w.heap[b]? = some (.map es cl)) := by
        rcases ents_sound H hc hents with ⟨e1, rfl⟩ | ⟨hh, es, _, _, e1, e2, e3, e4⟩
        · exact ⟨#[], rfl, rfl, fun i k x hx => by simp at hx, .inl ⟨e1, rfl⟩⟩
        · refine ⟨es, ?_, e3, e4, .inr ⟨_, _, e1, e2⟩⟩
          rw [Bool.eq_iff_iff, Array.isEmpty_iff_size_eq_zero, List.isEmpty_iff_length_eq_zero, e3]
      obtain ⟨es, k1, k2, k3, k4⟩ := key
      split at hr
      · rename_i u i hck hf
        obtain ⟨e, h3, h4⟩ := Option.map_eq_some_iff.1 hr
        obtain ⟨m', e', f1, f2, f3, f4, f5, f6⟩ := find_sound k2 k3 hf
        rw [h3] at f2
        injection f2 with f2
        subst f2 h4
        have hckr := fun w => ev_run hck w
        rw [← k1] at hckr
        refine .reads H (v' := if ok then .tuple #[m'.val, .bool true] else m'.val) ?_ ?_
        · rcases k4 with ⟨e1, e2⟩ | ⟨b, cl, e1, e2⟩
          · subst e2; simp at f1
          · rw [e1]
            simp [Instr.lookup, run_underlying hu, getObj_map e2, hckr, f6, Result.andThen]
        · cases ok
          · exact f5
          · exact vr_pair f5
      · rename_i u hck hf
        obtain ⟨z, hz, h4⟩ := Option.map_eq_some_iff.1 hr
        subst h4
        obtain ⟨zv, z1, z2⟩ := zeroAV_sound (V := V) hz
        have f6 := find_sound k2 k3 hf
        have hckr := fun w => ev_run hck w
        rw [← k1] at hckr
        refine .reads H (v' := if ok then .tuple #[zv, .bool false] else zv) ?_ ?_
        · rcases k4 with ⟨e1, e2⟩ | ⟨b, cl, e1, e2⟩
          · rw [e1]
            subst e2
            have hck2 : ∀ w, (Instr.checkKey true 10000 kt k).run P w = .ok u w := hckr
            have f7 : ∀ w, (Instr.findKey kt k []).run P w = .ok none w := f6
            simp [Instr.lookup, run_underlying hu, hck2, f7, z1, Result.andThen]
          · rw [e1]
            simp [Instr.lookup, run_underlying hu, getObj_map e2, hckr, f6, z1, Result.andThen]
        · cases ok
          · exact z2
          · exact vr_pair z2
      · cases hr
    · cases hr
  · cases h
theorem modify_set {es : Array MapEntry} {i : Nat} {m : MapEntry} {f : MapEntry → MapEntry} (h : es[i]? = some m) : es.modify i f = es.setIfInBounds i (f m) := by
  apply Array.ext_getElem?
  intro j
  rw [Array.getElem?_modify, Array.getElem?_setIfInBounds]
  by_cases hj : i = j
  · subst hj
    obtain ⟨h1, h2⟩ := Array.getElem?_eq_some_iff.1 h
    simp [h1, h2]
  · simp [hj]
/-- A map is written. -/
theorem write_map (H : HR V) {hh : Nat} {ents ents' : List (Value × AV)} (hb : V.bl hh = .map ents) {es' : Array MapEntry}
    (hl : es'.size = ents'.length) (he : ∀ V' : View, Ext V V' → ∀ (i : Nat) (k : Value) (x : AV), ents'[i]? = some (k, x) → ∃ m : MapEntry, es'[i]? = some m ∧ (m.key = k ∧ m.born = i) ∧ VR V' x m.val) :
    let w' := V.w.putObj (V.mu hh) (.map es' ents'.length)
    Ext V ⟨w', V.mu, upd V.bl hh (.map ents'), V.hid⟩ ∧ HR ⟨w', V.mu, upd V.bl hh (.map ents'), V.hid⟩ := by
  intro w'
  have hlive : (V.bl hh).live := by rw [hb]; trivial
  have hsz : w'.heap.size = V.w.heap.size := World.putObj_size
  have hne : ∀ b, b ≠ V.mu hh → w'.heap[b]? = V.w.heap[b]? := fun b hb => World.putObj_heap_other hb
  have ht : Turn V ⟨w', V.mu, upd V.bl hh (.map ents'), V.hid⟩ hh := by
    unfold Turn; rw [hb]; exact .inr ⟨ents', upd_same _ _ _, rfl⟩
  exact ⟨View.write H hlive hsz hne _ ht, HR.write H hlive hsz hne ht (fun V1 hV1 E1 => ⟨es', ents'.length, by rw [hV1]; exact World.putObj_heap_same (H.lt hlive), ⟨hl, rfl⟩, he V1 E1⟩)⟩
theorem update_sound {t : TypeId} {m : Cell} {mv k vx : Value} {x : AV} {hb : Nat × Blk} (H : HR V) (hc : CR V m mv) (hx : VR V x vx) (h : updateA P V.bl t m k x = some hb) :
    ∃ w', (Instr.mapUpdate t mv k vx).run P V.w = .ok () w' ∧ Ext V ⟨w', V.mu, upd V.bl hb.1 hb.2, V.hid⟩ ∧ HR ⟨w', V.mu, upd V.bl hb.1 hb.2, V.hid⟩ := by
  unfold updateA at h
  split at h
  · rename_i kt vt hh hu
    split at h
    · rename_i ents hbl
      rcases ents_sound (m := .mp hh) (ents := ents) H hc (by simp only [entsOf, hbl]) with ⟨e1, _⟩ | ⟨h', es, e0, _, e1, e2, e3, e4⟩
      · cases hc with
        | ro hr => cases hr
        | mp _ _ => cases e1
      · injection e0 with e0
        subst e0
        rw [e1]
        split at h
        · rename_i u i hck hf
          split at h
          · rename_i e hee
            obtain ⟨k', hk', he⟩ := Option.map_eq_some_iff.1 h
            subst he
            obtain ⟨m', e', f1, f2, f3, f4, f5, f6⟩ := find_sound e3 e4 hf
            rw [hee] at f2
            injection f2 with f2
            subst f2
            have hi : i < es.size := (Array.getElem?_eq_some_iff.1 f1).1
            have hmod : (es.modify i fun e => { e with key := k', val := vx }) = es.setIfInBounds i { key := k', val := vx, born := i } := by
              rw [modify_set f1, f4]
            refine ⟨_, ?_, write_map H hbl (es' := es.setIfInBounds i { key := k', val := vx, born := i }) (ents' := ents.set i (k', x)) (by simp [e3]) (fun V' E j kj xj hj => ?_)⟩
            · have hckr := fun w => ev_run hck w
              have hkr := fun w => ev_run hk' w
              have hkey : ((es[i]?).map (·.key)).getD k = e.1 := by rw [f1]; exact f3
              simp [Instr.mapUpdate, run_underlying hu, getObj_map e2, hckr, f6, Result.andThen, setObj_map _ e2, World.putObj, List.length_set, hkey, hkr, hmod]
            · by_cases hij : j = i
              · subst hij
                rw [List.getElem?_set_self (by omega)] at hj
                injection hj with hj
                injection hj with hj1 hj2
                subst hj1 hj2
                exact ⟨{ key := k', val := vx, born := j }, by simp [hi], ⟨rfl, rfl⟩, hx.mono E⟩
              · rw [List.getElem?_set_ne (fun e => hij e.symm)] at hj
                obtain ⟨m2, g1, g2, g3⟩ := e4 j kj xj hj
                exact ⟨m2, by rw [Array.getElem?_setIfInBounds_ne (fun e => hij e.symm)]; exact g1, g2, g3.mono E⟩
          · cases h
        · rename_i u hck hf
          injection h with h
          subst h
          have f6 := find_sound e3 e4 hf
          refine ⟨_, ?_, write_map H hbl (es' := es.push { key := k, val := vx, born := ents.length }) (ents' := ents ++ [(k, x)]) (by simp [e3]) (fun V' E j kj xj hj => ?_)⟩
          · have hckr := fun w => ev_run hck w
            simp [Instr.mapUpdate, run_underlying hu, getObj_map e2, hckr, f6, Result.andThen, setObj_map _ e2, World.putObj]
          · by_cases hij : j < ents.length
            · rw [List.getElem?_append_left hij] at hj
              obtain ⟨m2, g1, g2, g3⟩ := e4 j kj xj hj
              exact ⟨m2, by rw [Array.getElem?_push, if_neg (by omega)]; exact g1, g2, g3.mono E⟩
            · have hje : j = ents.length := by
                have := (List.getElem?_eq_some_iff.1 hj).1
                simp at this
                omega
              subst hje
              simp at hj
              obtain ⟨hj1, hj2⟩ := hj
              subst hj1 hj2
              exact ⟨{ key := k, val := vx, born := ents.length }, by rw [Array.getElem?_push, if_pos e3.symm], ⟨rfl, rfl⟩, hx.mono E⟩
        · cases h
    · cases h
  · cases h
theorem vr_stamp {V : View} {x : AV} {u : Value} {n : Nat} (h : VR V x u) : VR V (.tup [x, .one (.sc (.int .i64 (n : Int)))]) (.tuple #[u, goInt n]) := by
  refine .tup rfl (fun i y hy => ?_)
  match i with
  | 0 => simp at hy; subst hy; exact h
  | 1 => simp at hy; subst hy; exact .one (.ro (.sc rfl))
  | i + 2 => simp at hy
theorem entry_sound {t : TypeId} {m : Cell} {mv k : Value} {r : AV × (Nat × Blk)} (H : HR V) (hc : CR V m mv) (h : entryA P V.bl t m k = some r) :
    ∃ w' rv, (Instr.mapEntry t mv k).run P V.w = .ok rv w' ∧ Ext V ⟨w', V.mu, upd V.bl r.2.1 r.2.2, V.hid⟩ ∧ HR ⟨w', V.mu, upd V.bl r.2.1 r.2.2, V.hid⟩ ∧ VR ⟨w', V.mu, upd V.bl r.2.1 r.2.2, V.hid⟩ r.1 rv := by
  unfold entryA at h
  split at h
  · rename_i kt vt hh hu
    split at h
    · rename_i ents hbl
      rcases ents_sound (m := .mp hh) (ents := ents) H hc (by simp only [entsOf, hbl]) with ⟨e1, _⟩ | ⟨h', es, e0, _, e1, e2, e3, e4⟩
      · cases hc with
        | ro hr => cases hr
        | mp _ _ => cases e1
      · injection e0 with e0
        subst e0
        rw [e1]
        split at h
        · rename_i u i hck hf
          split at h
          · rename_i e hee
            obtain ⟨k', hk', he⟩ := Option.map_eq_some_iff.1 h
            subst he
            obtain ⟨m', e', f1, f2, f3, f4, f5, f6⟩ := find_sound e3 e4 hf
            rw [hee] at f2
            injection f2 with f2
            subst f2
            have hi : i < es.size := (Array.getElem?_eq_some_iff.1 f1).1
            have hmod : (es.modify i fun e => { e with key := k' }) = es.setIfInBounds i { key := k', val := m'.val, born := i } := by
              rw [modify_set f1, f4]
            have hw := write_map H hbl (es' := es.setIfInBounds i { key := k', val := m'.val, born := i }) (ents' := ents.set i (k', e.2)) (by simp [e3]) (fun V' E j kj xj hj => by
              by_cases hij : j = i
              · subst hij
                rw [List.getElem?_set_self (by omega)] at hj
                injection hj with hj
                injection hj with hj1 hj2
                subst hj1 hj2
                exact ⟨{ key := k', val := m'.val, born := j }, by simp [hi], ⟨rfl, rfl⟩, f5.mono E⟩
              · rw [List.getElem?_set_ne (fun e => hij e.symm)] at hj
                obtain ⟨m2, g1, g2, g3⟩ := e4 j kj xj hj
                exact ⟨m2, by rw [Array.getElem?_setIfInBounds_ne (fun e => hij e.symm)]; exact g1, g2, g3.mono E⟩)
            refine ⟨_, .tuple #[m'.val, goInt i], ?_, hw.1, hw.2, vr_stamp (f5.mono hw.1)⟩
            have hckr := fun w => ev_run hck w
            have hkr := fun w => ev_run hk' w
            have hkey : ((es[i]?).map (·.key)).getD k = e.1 := by rw [f1]; exact f3
            have hborn : ((es[i]?).map (fun x => (x.born : Int))).getD 0 = i := by rw [f1]; simp [f4]
            simp [Instr.mapEntry, run_underlying hu, getObj_map e2, hckr, f6, Result.andThen, setObj_map _ e2, World.putObj, List.length_set, hkey, hkr, hmod, hborn]
          · cases h
        · rename_i u hck hf
          obtain ⟨z, hz, h4⟩ := Option.map_eq_some_iff.1 h
          subst h4
          obtain ⟨zv, z1, z2⟩ := zeroAV_sound (V := V) hz
          have f6 := find_sound e3 e4 hf
          have hw := write_map H hbl (es' := es.push { key := k, val := zv, born := ents.length }) (ents' := ents ++ [(k, z)]) (by simp [e3]) (fun V' E j kj xj hj => by
            by_cases hij : j < ents.length
            · rw [List.getElem?_append_left hij] at hj
              obtain ⟨m2, g1, g2, g3⟩ := e4 j kj xj hj
              exact ⟨m2, by rw [Array.getElem?_push, if_neg (by omega)]; exact g1, g2, g3.mono E⟩
            · have hje : j = ents.length := by
                have := (List.getElem?_eq_some_iff.1 hj).1
                simp at this
                omega
              subst hje
              simp at hj
              obtain ⟨hj1, hj2⟩ := hj
              subst hj1 hj2
              exact ⟨{ key := k, val := zv, born := ents.length }, by rw [Array.getElem?_push, if_pos e3.symm], ⟨rfl, rfl⟩, z2.mono E⟩)
          refine ⟨_, .tuple #[zv, goInt ents.length], ?_, hw.1, hw.2, vr_stamp (z2.mono hw.1)⟩
          have hckr := fun w => ev_run hck w
          simp [Instr.mapEntry, run_underlying hu, getObj_map e2, hckr, f6, z1, Result.andThen, setObj_map _ e2, World.putObj]
        · cases h
    · cases h
  · cases h
theorem stamp_sound {t : TypeId} {m : Cell} {mv sv vx : Value} {s x : AV} {hb : Nat × Blk} (H : HR V) (hc : CR V m mv) (hs : VR V s sv) (hx : VR V x vx) (h : entryStoreA V.bl m (intOf? s) x = some hb) :
    ∃ w', (Instr.entryStore t mv sv vx).run P V.w = .ok () w' ∧ Ext V ⟨w', V.mu, upd V.bl hb.1 hb.2, V.hid⟩ ∧ HR ⟨w', V.mu, upd V.bl hb.1 hb.2, V.hid⟩ := by
  unfold entryStoreA at h
  split at h
  · rename_i hh i hi0
    split at h
    · rename_i ents hbl
      rcases ents_sound (m := .mp hh) (ents := ents) H hc (by simp only [entsOf, hbl]) with ⟨e1, _⟩ | ⟨h', es, e0, _, e1, e2, e3, e4⟩
      · cases hc with
        | ro hr => cases hr
        | mp _ _ => cases e1
      · injection e0 with e0
        subst e0
        rw [e1]
        split at h
        · rename_i h0
          split at h
          · rename_i e hee
            injection h with h
            subst h
            obtain ⟨κ, hsv⟩ := int_sound hs hi0
            obtain ⟨j, rfl⟩ := Int.eq_ofNat_of_zero_le h0
            simp only [Int.toNat_natCast] at hee ⊢
            obtain ⟨m', f1, ⟨f2, f3⟩, f4⟩ := e4 j e.1 e.2 hee
            have hj : j < es.size := (Array.getElem?_eq_some_iff.1 f1).1
            have hmod : (es.modify j fun e => { e with val := vx }) = es.setIfInBounds j { key := e.1, val := vx, born := j } := by
              rw [modify_set f1, f2, f3]
            have hfind : es.findIdx? (fun e => (e.born : Int) == (j : Int)) = some j := by
              have hall : ∀ q (hq : q < es.size), es[q].born = q := fun q hq => by
                obtain ⟨eq, heq⟩ : ∃ eq, ents[q]? = some eq := ⟨_, List.getElem?_eq_getElem (by omega)⟩
                obtain ⟨m2, g1, g2, _⟩ := e4 q eq.1 eq.2 heq
                rw [Array.getElem?_eq_getElem hq] at g1
                injection g1 with g1
                rw [g1]; exact g2.2
              rw [Array.findIdx?_eq_some_iff_getElem]
              refine ⟨hj, by simp [hall j hj], fun q hq => ?_⟩
              have := hall q (by omega)
              simp [this]
              omega
            have hw := write_map H hbl (es' := es.setIfInBounds j { key := e.1, val := vx, born := j }) (ents' := ents.set j (e.1, x)) (by simp [e3]) (fun V' E q kj xj hq => by
              by_cases hij : q = j
              · subst hij
                rw [List.getElem?_set_self (by omega)] at hq
                injection hq with hq
                injection hq with hj1 hj2
                subst hj1 hj2
                exact ⟨{ key := e.1, val := vx, born := q }, by simp [hj], ⟨rfl, rfl⟩, hx.mono E⟩
              · rw [List.getElem?_set_ne (fun e => hij e.symm)] at hq
                obtain ⟨m2, g1, g2, g3⟩ := e4 q kj xj hq
                exact ⟨m2, by rw [Array.getElem?_setIfInBounds_ne (fun e => hij e.symm)]; exact g1, g2, g3.mono E⟩)
            refine ⟨_, ?_, hw.1, hw.2⟩
            rw [hsv]
            simp [Instr.entryStore, getObj_map e2, asInt, asIntOf, hfind, Result.andThen, setObj_map _ e2, World.putObj, List.length_set, hmod]
          · cases h
        · cases h
    · cases h
  · cases h
theorem op_update {t : TypeId} {m k x : Operand} (H : HR V) (R : ER V env a.tmps) (h : (match (evo env m).cell, (evo env k).toV with
    | some m, some k => (updateA P V.bl t m k (evo env x)).map fun d => (AV.und, some d)
    | _, _ => none) = some (v, d)) : OpOk P V (do Instr.mapUpdate t (a.eval m) (a.eval k) (a.eval x); pure .skip) v d := by
  split at h
  · rename_i mc kv hm hk
    obtain ⟨hb, hu, he⟩ := Option.map_eq_some_iff.1 h
    injection he with h1 h2
    subst h1 h2
    have hkv := toV_sound (evo_sound R k) _ hk
    rw [hkv]
    obtain ⟨w', h1, h2, h3⟩ := update_sound H (cell_sound (evo_sound R m) hm) (evo_sound R x) hu
    exact ⟨.skip, w', V.mu, undef, by simp [h1], .inr ⟨rfl, rfl⟩, h2, h3, .und, fun _ _ => rfl⟩
  · cases h
theorem op_entry {t : TypeId} {m k : Operand} (H : HR V) (R : ER V env a.tmps) (h : (match (evo env m).cell, (evo env k).toV with
    | some m, some k => (entryA P V.bl t m k).map fun r => (r.1, some r.2)
    | _, _ => none) = some (v, d)) : OpOk P V (do pure (.value (← Instr.mapEntry t (a.eval m) (a.eval k)))) v d := by
  split at h
  · rename_i mc kv hm hk
    obtain ⟨r, hu, he⟩ := Option.map_eq_some_iff.1 h
    injection he with h1 h2
    subst h1 h2
    have hkv := toV_sound (evo_sound R k) _ hk
    rw [hkv]
    obtain ⟨w', rv, h1, h2, h3, h4⟩ := entry_sound H (cell_sound (evo_sound R m) hm) hu
    exact .bindv ⟨w', V.mu, rv, h1, h2, h3, h4, fun _ _ => rfl⟩
  · cases h
theorem op_stamp {t : TypeId} {m s x : Operand} (H : HR V) (R : ER V env a.tmps) (h : (match (evo env m).cell with
    | some m => (entryStoreA V.bl m (intOf? (evo env s)) (evo env x)).map fun d => (AV.und, some d)
    | none => none) = some (v, d)) : OpOk P V (do Instr.entryStore t (a.eval m) (a.eval s) (a.eval x); pure .skip) v d := by
  split at h
  · rename_i mc hm
    obtain ⟨hb, hu, he⟩ := Option.map_eq_some_iff.1 h
    injection he with h1 h2
    subst h1 h2
    obtain ⟨w', h1, h2, h3⟩ := stamp_sound (P := P) (t := t) H (cell_sound (evo_sound R m) hm) (evo_sound R s) (evo_sound R x) hu
    exact ⟨.skip, w', V.mu, undef, by simp [h1], .inr ⟨rfl, rfl⟩, h2, h3, .und, fun _ _ => rfl⟩
  · cases h
end
end Go.AM

namespace Go.AM
section
variable {P : Program} {V : View} {env : Env} {a : Act} {o : Oper} {v : AV} {d : Option (Nat × Blk)}

theorem op_builtin {c : Call} {b : Builtin} (hc : c.callee = .builtin b) (ho : o.op = .call c) (H : HR V) (R : ER V env a.tmps) {nw : Nat} (hn : V.bl nw = .none) (h : aopBuiltin P nw V.bl env o c b = some (v, d)) : OpOk P V (execOp a.eval o) v d := by
  have hs : ∀ cs b, o.op ≠ .select cs b := by rw [ho]; intro _ _ h; cases h
  have hx : execOp a.eval o = (do let d ← resolve a.eval c o.type; invoke d.target d.args) := by unfold execOp; rw [ho]
  unfold aopBuiltin at h
  split at h
  · -- len
    split at h
    · rename_i x hargs
      have hargs' : c.args = #[x] := by cases hc' : c.args; simp_all
      split at h
      · exact plainOp_sound H R hs h
      · rename_i hh hcell
        have hcr := cell_sound (evo_sound R x) hcell
        split at h
        · rename_i n kt et hn' hty
          injection h with h
          injection h with h1 h2
          subst h1 h2
          obtain ⟨t, ht, hu⟩ := Option.bind_eq_some_iff.1 hty
          have hv := lenOf_sound hcr hn'
          rcases hv with ⟨A, cap, hv, _⟩ | ⟨_, _, h3⟩ | ⟨s, _, _, h3⟩ | ⟨h', es, h3, h4, h5, h6⟩
          · exfalso
            rw [hv] at hcr
            cases hcr with
            | ro hr => cases hr
          · cases h3
          · cases h3
          · injection h3 with h3
            subst h3
            obtain ⟨ents, clock, g1, g2, _⟩ := H.at h4
            refine .value H (v' := .int .i64 n) ?_ (.one (.ro (.sc rfl)))
            rw [hx]
            simp [resolve, hc, hargs', invoke, builtin, h5, Builtin.len_, ht, run_underlying hu, getObj, Sem.run, g1, goInt, g2, h6]
        · cases h
      · rename_i q hq hq2 hcell
        have hcr := cell_sound (evo_sound R x) hcell
        split at h
        · rename_i n e hn' hty
          injection h with h
          injection h with h1 h2
          subst h1 h2
          obtain ⟨t, ht, hu⟩ := Option.bind_eq_some_iff.1 hty
          rcases lenOf_sound hcr hn' with ⟨A, cap, hv, _⟩ | ⟨_, _, h3⟩ | ⟨s, _, _, h3⟩ | ⟨h', es, h3, _⟩
          · refine .value H (v' := .int .i64 n) ?_ (.one (.ro (.sc rfl)))
            rw [hx]
            simp [resolve, hc, hargs', invoke, builtin, hv, Builtin.len_, ht, run_underlying hu, goInt]
          · exact absurd h3 (hq _)
          · exact absurd h3 (hq _)
          · exact absurd h3 (hq2 _)
        · cases h
      · cases h
    · cases h
  · -- append
    split at h
    · rename_i s x t t' hargs htys
      have hargs' : c.args = #[s, x] := by cases hc' : c.args; simp_all
      have htys' : c.argTypes = #[t, t'] := by cases hc' : c.argTypes; simp_all
      split at h
      · rename_i htt
        subst htt
        split at h
        · rename_i e sc xc hu hsc hxc
          have hcs := cell_sound (evo_sound R s) hsc
          have hcx := cell_sound (evo_sound R x) hxc
          split at h
          · rename_i i hi
            split at h
            · rename_i new hnew
              split at h
              · rename_i z hz
                split at h
                · rename_i hcond
                  obtain ⟨hb0, hs0, hzl⟩ := hcond
                  obtain ⟨A, cx, RA⟩ := rowsOf_sound H hcx hnew
                  obtain ⟨zv, _, hzc, i', hi', hzi⟩ := zero_sound (V := V) hz
                  rw [hi] at hi'
                  injection hi' with hi'
                  subst hi'
                  obtain ⟨w', mu', v', h1, h2, h3, h4, h5⟩ := appendA_sound (P := P) (ty := o.type) H hu hi hzi (by have := hzc.len; omega) hs0 hn hcs RA h hb0
                  refine ⟨.value v', w', mu', v', ?_, .inl rfl, h2, h3, h4, h5⟩
                  rw [hx]
                  simp [resolve, hc, hargs', htys', invoke, builtin, h1]
                · cases h
              · cases h
            · cases h
          · cases h
        · cases h
      · cases h
    · cases h
  · exact plainOp_sound H R hs h
  · exact plainOp_sound H R hs h
  · cases h

theorem unlike_sound {k : TypeDesc} {x y : Value} {c : Cell} {t : TypeId} (hk : P.underlying t = some k) (hu : unlike k x c = true) (h2 : CR V c y) :
    (∀ op ox oy, eqGuard op t ox oy x y = pure ()) ∧ (∀ op ox oy, eqGuard op t ox oy y x = pure ()) ∧
    ((binOp .eql t x y).run P V.w = .ok (.bool false) V.w ∧ (binOp .neq t x y).run P V.w = .ok (.bool true) V.w) ∧
    ((binOp .eql t y x).run P V.w = .ok (.bool false) V.w ∧ (binOp .neq t y x).run P V.w = .ok (.bool true) V.w) := by
  have key : (∀ op ox oy, eqGuard op t ox oy x y = pure ()) → (∀ op ox oy, eqGuard op t ox oy y x = pure ()) →
      (binOp .eql t x y = (do pure (.bool (← Op.equal t x y)))) → (binOp .neq t x y = (do pure (.bool (!(← Op.equal t x y))))) →
      (binOp .eql t y x = (do pure (.bool (← Op.equal t y x)))) → (binOp .neq t y x = (do pure (.bool (!(← Op.equal t y x))))) →
      (∀ d, (Op.equalIn (d + 1) t x y).run P V.w = .ok false V.w) → (∀ d, (Op.equalIn (d + 1) t y x).run P V.w = .ok false V.w) →
      (∀ op ox oy, eqGuard op t ox oy x y = pure ()) ∧ (∀ op ox oy, eqGuard op t ox oy y x = pure ()) ∧
      ((binOp .eql t x y).run P V.w = .ok (.bool false) V.w ∧ (binOp .neq t x y).run P V.w = .ok (.bool true) V.w) ∧
      ((binOp .eql t y x).run P V.w = .ok (.bool false) V.w ∧ (binOp .neq t y x).run P V.w = .ok (.bool true) V.w) := by
    intro e1 e2 b1 b2 b3 b4 r1' r2'
    have r1 : (Op.equal t x y).run P V.w = .ok false V.w := r1' 9999
    have r2 : (Op.equal t y x).run P V.w = .ok false V.w := r2' 9999
    refine ⟨e1, e2, ⟨?_, ?_⟩, ⟨?_, ?_⟩⟩
    · rw [b1]; simp [r1]
    · rw [b2]; simp [r1]
    · rw [b3]; simp [r2]
    · rw [b4]; simp [r2]
  unfold unlike at hu
  split at hu <;> first | (cases hu; done) | skip
  all_goals
    cases h2 <;> first
      | (rename_i hr; cases hr; done)
      | skip
  all_goals first
    | (refine key (fun op _ _ => by cases op <;> rfl) (fun op _ _ => by cases op <;> rfl) rfl rfl rfl rfl ?_ ?_ <;> (intro d; simp only [Op.equalIn, Sem.run_bind, run_underlying hk, Result.andThen_ok]; rfl))
    | (rename_i hr; cases hr; refine key (fun op _ _ => by cases op <;> rfl) (fun op _ _ => by cases op <;> rfl) rfl rfl rfl rfl ?_ ?_ <;> (intro d; simp only [Op.equalIn, Sem.run_bind, run_underlying hk, Result.andThen_ok]; rfl))

theorem op_eqNil {op : BinOp} {t u : TypeId} {x y : Operand} (hop : op = .eql ∨ op = .neq) (ho : o.op = .binOp op t x y u) (H : HR V) (R : ER V env a.tmps) (h : eqNil P env op t x y = some v) : OpOk P V (execOp a.eval o) v none := by
  have he : execOp a.eval o = ((eqGuard op t x y (a.eval x) (a.eval y) >>= fun _ => binOp op t (a.eval x) (a.eval y)) >>= fun r => pure (.value r)) := by unfold execOp; rw [ho]
  rw [he]
  have hx := evo_sound R x
  have hy := evo_sound R y
  unfold eqNil at h
  split at h
  · rename_i k u0 c hk h1 h2
    rw [h1] at hx
    rw [h2] at hy
    split at h
    · rename_i hu
      injection h with h
      subst h
      have hxv : a.eval x = u0 := toV_sound hx _ rfl
      cases hy with
      | one hc =>
        obtain ⟨g1, _, ⟨g3, g4⟩, _⟩ := unlike_sound (P := P) hk hu hc
        rw [hxv]
        rcases hop with rfl | rfl
        · exact .reads H (by rw [g1]; simpa using g3) (.one (.ro (.sc rfl)))
        · exact .reads H (by rw [g1]; simpa using g4) (.one (.ro (.sc rfl)))
    · cases h
  · rename_i k c u0 _ hk h1 h2
    rw [h1] at hx
    rw [h2] at hy
    split at h
    · rename_i hu
      injection h with h
      subst h
      have hyv : a.eval y = u0 := toV_sound hy _ rfl
      cases hx with
      | one hc =>
        obtain ⟨_, g1, _, ⟨g3, g4⟩⟩ := unlike_sound (P := P) hk hu hc
        rw [hyv]
        rcases hop with rfl | rfl
        · exact .reads H (by rw [g1]; simpa using g3) (.one (.ro (.sc rfl)))
        · exact .reads H (by rw [g1]; simpa using g4) (.one (.ro (.sc rfl)))
    · cases h
  · cases h

theorem aop_sound {nw : Nat} (H : HR V) (R : ER V env a.tmps) (hn : V.bl nw = .none) (h : aop P nw V.bl env o = some (v, d)) : OpOk P V (execOp a.eval o) v d := by
  unfold aop at h
  split at h <;> rename_i hop
  · rename_i x
    injection h with h; injection h with h1 h2; subst h1 h2
    have : execOp a.eval o = pure (.value (a.eval x)) := by unfold execOp; rw [hop]
    rw [this]; exact op_move H R
  · rename_i x
    injection h with h; injection h with h1 h2; subst h1 h2
    have : execOp a.eval o = pure (.value (a.eval x)) := by unfold execOp; rw [hop]
    rw [this]; exact op_move H R
  · rename_i c x y
    split at h
    · rename_i t hc
      injection h with h; injection h with h1 h2; subst h1 h2
      have hv := evo_sound R c
      rw [hc] at hv
      have hcv : a.eval c = .bool t := toV_sound hv _ rfl
      refine .value H (v' := if t then a.eval x else a.eval y) ?_ ?_
      · unfold execOp
        rw [hop]
        simp [hcv, asBool]
      · cases t
        · exact evo_sound R y
        · exact evo_sound R x
    · cases h
  · rename_i e
    obtain ⟨z, hz, he⟩ := Option.map_eq_some_iff.1 h
    injection he with h1 h2; subst h1 h2
    obtain ⟨zv, hrz, hzc, _⟩ := zero_sound (V := V) hz
    have : execOp a.eval o = (do pure (.value (← Instr.alloc e true (.tuple #[])))) := by unfold execOp; rw [hop]
    rw [this]
    refine new_val (w' := { V.w with heap := V.w.heap.push (.cells zv.cells e) }) ?_ (new_box H rfl hn hzc)
    simp [Instr.alloc, hrz, newVar, newRow, newObj, Sem.run]
  · rename_i e x
    obtain ⟨cs, hcs, he⟩ := Option.map_eq_some_iff.1 h
    injection he with h1 h2; subst h1 h2
    have : execOp a.eval o = (do pure (.value (← Instr.box e (a.eval x)))) := by unfold execOp; rw [hop]
    rw [this]
    refine new_val (w' := { V.w with heap := V.w.heap.push (.cells (a.eval x).cells e) }) ?_ (new_box H rfl hn (cells_sound (evo_sound R x) hcs))
    simp [Instr.box, newVar, newRow, newObj, Sem.run]
  · rename_i t parts
    have : execOp a.eval o = (do pure (.value (← Instr.build t (parts.map fun x => match x with | (i, x) => (i, a.eval x))))) := by unfold execOp; rw [hop]
    rw [this]
    split at h
    · rename_i z ps fields hz hps hu
      split at h
      · rename_i places hpl
        obtain ⟨cs, hf, he⟩ := Option.map_eq_some_iff.1 h
        injection he with h1 h2; subst h1 h2
        refine op_build H R hz hps hf (fun zv i hi hzi vs D hD => ?_)
        unfold Program.built
        rw [hi, hu]
        simp only [hzi]
        have : fields.toList.mapM (fun f => (P.info? f.type).map fun i => (f.offset, i.size)) = some places := by
          rw [← hpl]
          congr 1
          funext f
          simp [szOf, Option.map_map]
          rfl
        rw [this]
        simpa using hD
      · cases h
    · rename_i z ps n e hz hps hu
      split at h
      · rename_i s hs
        obtain ⟨cs, hf, he⟩ := Option.map_eq_some_iff.1 h
        injection he with h1 h2; subst h1 h2
        refine op_build H R hz hps hf (fun zv i hi hzi vs D hD => ?_)
        obtain ⟨ie, hie, rfl⟩ := info_of_size hs
        unfold Program.built
        rw [hi, hu]
        simp only [hzi, hie]
        exact hD
      · cases h
    · cases h
  · rename_i t len parts
    have : execOp a.eval o = (do pure (.value (← Instr.buildSlice t len (parts.map fun x => match x with | (i, x) => (i, a.eval x))))) := by unfold execOp; rw [hop]
    rw [this]; exact op_buildSlice H R hn h
  · rename_i t x
    have : execOp a.eval o = (do pure (.value (← Instr.loadAt t (a.eval x)))) := by unfold execOp; rw [hop]
    rw [this]; exact op_load H R h
  · rename_i t x y
    have : execOp a.eval o = (do Instr.storeAt t (a.eval x) (a.eval y); pure .skip) := by unfold execOp; rw [hop]
    rw [this]; exact op_store H R h
  · rename_i x
    have he : execOp a.eval o = (match a.eval x with
      | .pointer none | .nilIface | .nilFunc => runtimePanic .nilDeref
      | .func (.method name) first captured =>
        match (first[0]? : Option Value) with
        | some .nilIface => runtimePanic .nilDeref
        | some (.iface t w) => do
          if (← nilAhead ((← program).types.size + Made.depth) t w name) != some false then
            unsupported (.noEntry "op/nilCheck.the method's receiver behind this interface value is a nil pointer, or cannot be seen to be none, and the arguments act or may panic (ledger 612)")
          pure (.value (.func (.method name) first captured))
        | _ => pure (.value (.func (.method name) first captured))
      | x => pure (.value x)) := by unfold execOp; rw [hop]; rfl
    rw [he]
    split at h
    · rename_i hh off hc
      injection h with h; injection h with h1 h2; subst h1 h2
      have hcr := cell_sound (evo_sound R x) hc
      generalize a.eval x = vx at hcr ⊢
      cases hcr with
      | ro hr => cases hr
      | bp g1 g2 => exact .value H rfl (.one (.bp g1 g2))
    · rename_i q sz i off hc
      injection h with h; injection h with h1 h2; subst h1 h2
      have hcr := cell_sound (evo_sound R x) hc
      generalize a.eval x = vx at hcr ⊢
      cases hcr with
      | ro hr => cases hr
      | ep g1 g2 => exact .value H rfl (.one (.ep g1 g2))
    · rename_i f p q hc
      injection h with h; injection h with h1 h2; subst h1 h2
      have hcr := cell_sound (evo_sound R x) hc
      generalize a.eval x = vx at hcr ⊢
      cases hcr with
      | ro hr => cases hr with | fn => exact .value H rfl (.one (.ro .fn))
      | fn g1 g2 g3 g4 => exact .value H rfl (.one (.fn g1 g2 g3 g4))
    · cases h
  · rename_i op t x y u
    have hs : ∀ cs b, o.op ≠ .select cs b := by rw [hop]; intro _ _ h; cases h
    split at h
    · split at h
      · rename_i r hr
        injection h with h; injection h with h1 h2; subst h1 h2
        exact op_eqNil (.inl rfl) hop H R hr
      · exact plainOp_sound H R hs h
    · split at h
      · rename_i r hr
        injection h with h; injection h with h1 h2; subst h1 h2
        exact op_eqNil (.inr rfl) hop H R hr
      · exact plainOp_sound H R hs h
    · exact plainOp_sound H R hs h
  · exact plainOp_sound H R (by rw [hop]; intro _ _ h; cases h) h
  · exact plainOp_sound H R (by rw [hop]; intro _ _ h; cases h) h
  · rename_i f first caps
    split at h
    · rename_i p q hp hq
      injection h with h; injection h with h1 h2; subst h1 h2
      obtain ⟨g1, g2⟩ := op_cells R hp
      obtain ⟨g3, g4⟩ := op_cells R hq
      refine .value H (v' := .func f (first.map a.eval) (caps.map a.eval)) ?_ (.one (.fn g1 g3 g2 g4))
      unfold execOp
      rw [hop]
      simp [Instr.makeFunc]
    · cases h
  · rename_i t r
    split at h
    · rename_i kt et hu
      injection h with h; injection h with h1 h2; subst h1 h2
      have he : execOp a.eval o = (do pure (.value (← Instr.makeMap t none))) := by unfold execOp; rw [hop]; rfl
      rw [he]
      refine new_val (w' := { V.w with heap := V.w.heap.push (.map #[] 0) }) (v' := .map (some V.w.heap.size)) (by simp [Instr.makeMap, newObj, Sem.run])
        ⟨View.alloc H rfl hn _, HR.alloc H rfl hn (fun V' _ _ ho => ⟨#[], 0, ho, ⟨rfl, rfl⟩, fun i k x hx => by simp at hx⟩), .one (.mp (by simp only [upd_same]; simp) (fun es _ => by simp only [upd_same]))⟩
    · cases h
  · rename_i t l c
    have : execOp a.eval o = (do pure (.value (← Instr.makeSlice t (a.eval l) (a.eval c)))) := by unfold execOp; rw [hop]
    rw [this]; exact op_makeSlice H R hn h
  · rename_i t x lo hi mx
    have : execOp a.eval o = (do pure (.value (← Instr.sliceAt t (a.eval x) (lo.map a.eval) (hi.map a.eval) (mx.map a.eval)))) := by unfold execOp; rw [hop]
    rw [this]; exact op_slice H R h
  · rename_i s x f
    have : execOp a.eval o = (do pure (.value (← Instr.fieldAt s (a.eval x) f))) := by unfold execOp; rw [hop]
    rw [this]; exact op_fieldAddr H R h
  · rename_i t x f
    have : execOp a.eval o = (do pure (.value (← Instr.field t (a.eval x) f))) := by unfold execOp; rw [hop]
    rw [this]; exact op_field H R h
  · rename_i t x ix
    have : execOp a.eval o = (do pure (.value (← Instr.indexAt t (a.eval x) (a.eval ix)))) := by unfold execOp; rw [hop]
    rw [this]; exact op_indexAddr H R h
  · exact op_index H R hop h
  · rename_i t x ix ok
    have : execOp a.eval o = (do pure (.value (← Instr.lookup t (a.eval x) (a.eval ix) ok))) := by unfold execOp; rw [hop]
    rw [this]; exact op_lookup H R h
  · rename_i t m k x
    have : execOp a.eval o = (do Instr.mapUpdate t (a.eval m) (a.eval k) (a.eval x); pure .skip) := by unfold execOp; rw [hop]
    rw [this]; exact op_update H R h
  · rename_i t m k x
    have : execOp a.eval o = (do Instr.mapUpdate t (a.eval m) (a.eval k) (a.eval x); pure .skip) := by unfold execOp; rw [hop]
    rw [this]; exact op_update H R h
  · rename_i t m k
    have : execOp a.eval o = (do pure (.value (← Instr.mapEntry t (a.eval m) (a.eval k)))) := by unfold execOp; rw [hop]
    rw [this]; exact op_entry H R h
  · rename_i t m s x
    have : execOp a.eval o = (do Instr.entryStore t (a.eval m) (a.eval s) (a.eval x); pure .skip) := by unfold execOp; rw [hop]
    rw [this]; exact op_stamp H R h
  · rename_i x i
    have he : execOp a.eval o = (do pure (.value (← Instr.extract (a.eval x) i))) := by unfold execOp; rw [hop]
    split at h
    · rename_i vs hx
      obtain ⟨u, hu, he2⟩ := Option.map_eq_some_iff.1 h
      injection he2 with h1 h2; subst h1 h2
      have hv := evo_sound R x
      rw [hx] at hv
      rw [he]
      generalize a.eval x = vx at hv ⊢
      cases hv with
      | @tup _ us g1 g2 =>
        have hlt := (List.getElem?_eq_some_iff.1 hu).1
        have hg := g2 _ _ hu
        have hx := getD_lt (C := us) (i := i) (by omega)
        generalize us.getD i undef = y at hg hx
        exact .reads H (by simp [Instr.extract, hx]) hg
    · cases h
  · rename_i c
    split at h
    · rename_i b hc
      exact op_builtin hc hop H R hn h
    · cases h
  · cases h

end
end Go.AM

namespace Go.AM

/-- The blocks of the rounds' deferred calls. -/
def DR (V : View) (base : Nat) (ds : List Deferred) : Prop :=
  ∃ rs : List Nat, ds = rs.map (fun r => { target := .collected r, args := #[] }) ∧ rs.Nodup ∧ ∀ r ∈ rs, (V.w.heap[r]? = some (.deferred (some [])) ∧ ¬ own V r) ∧ base ≤ r
theorem DR.mono {V V' : View} (E : Ext V V') {base : Nat} {ds : List Deferred} (h : DR V base ds) : DR V' base ds := by
  obtain ⟨rs, h1, h2, h3⟩ := h
  refine ⟨rs, h1, h2, fun r hr => ?_⟩
  obtain ⟨⟨h4, h5⟩, h8⟩ := h3 r hr
  obtain ⟨h6, h7⟩ := E.keep r (Array.getElem?_eq_some_iff.1 h4).1 h5
  exact ⟨⟨h6.trans h4, h7⟩, h8⟩
theorem DR.nil (V : View) (base : Nat) : DR V base [] := ⟨[], rfl, List.nodup_nil, fun r hr => by cases hr⟩

structure SitH (V : View) (H : AH) : Prop where
  bl : V.bl = H.bl
  nx : ∀ h, H.nx ≤ h → H.bl h = .none
  hr : HR V
/-- The loop in whose round the code runs. -/
def RdR (V : View) (ro : Option Nat) : Prop := ∀ l, ro = some l → ∃ h r, V.bl h = .loop r ∧ V.mu h = l
theorem RdR.mono {V V' : View} (E : Ext V V') {ro : Option Nat} (h : RdR V ro) : RdR V' ro := by
  intro l hl
  obtain ⟨h, r, h1, h2⟩ := h l hl
  have t := E.turn h
  unfold Turn at t
  rw [h1] at t
  obtain ⟨r', t1, t2⟩ := t
  exact ⟨h, r', t1, t2.trans h2⟩

structure Sit (V : View) (H : AH) (env : Env) (ro : Option Nat) (base : Nat) (a : Act) : Prop extends SitH V H where
  er : ER V env a.tmps
  dr : DR V base a.defers
  rd : RdR V ro

structure Step (V : View) (H : AH) (V' : View) (H' : AH) : Prop where
  ext : Ext V V'
  lo : H'.lo ≤ H.lo
  nx : H.nx ≤ H'.nx
  keep : ∀ h, h < H'.lo → V.bl h ≠ .none → V'.bl h = V.bl h ∧ V'.mu h = V.mu h
theorem Step.refl (V : View) (H : AH) : Step V H V H := ⟨Ext.refl V, Nat.le_refl _, Nat.le_refl _, fun _ _ _ => ⟨rfl, rfl⟩⟩
theorem Step.trans {V V1 V2 : View} {H H1 H2 : AH} (a : Step V H V1 H1) (b : Step V1 H1 V2 H2) : Step V H V2 H2 := by
  refine ⟨a.ext.trans b.ext, Nat.le_trans b.lo a.lo, Nat.le_trans a.nx b.nx, fun h hl hn => ?_⟩
  obtain ⟨h1, h2⟩ := a.keep h (Nat.lt_of_lt_of_le hl b.lo) hn
  obtain ⟨h3, h4⟩ := b.keep h hl (by rw [h1]; exact hn)
  exact ⟨h3.trans h1, h4.trans h2⟩

/-- One operation's turn of the heap. -/
theorem step_app {V : View} {H : AH} (S : SitH V H) {w' : World} {mu' : Nat → Nat} {d : Option (Nat × Blk)} (hE : Ext V ⟨w', mu', bapp V.bl d, V.hid⟩) (hH : HR ⟨w', mu', bapp V.bl d, V.hid⟩) (hk : ∀ j, (∀ b, d ≠ some (j, b)) → mu' j = V.mu j) :
    Step V H ⟨w', mu', bapp V.bl d, V.hid⟩ (H.app d) ∧ SitH ⟨w', mu', bapp V.bl d, V.hid⟩ (H.app d) := by
  cases d with
  | none =>
    have hm : mu' = V.mu := funext fun j => hk j (fun b h => by cases h)
    subst hm
    exact ⟨⟨hE, Nat.le_refl _, Nat.le_refl _, fun _ _ _ => ⟨rfl, rfl⟩⟩, ⟨S.bl, S.nx, hH⟩⟩
  | some p =>
    obtain ⟨h, b⟩ := p
    refine ⟨⟨hE, Nat.min_le_left _ _, Nat.le_max_left _ _, fun j hj _ => ?_⟩, ⟨?_, fun j hj => ?_, hH⟩⟩
    · have hjh : j ≠ h := by have : j < min H.lo h := hj; omega
      exact ⟨upd_ne _ _ hjh, hk j (fun b' hb' => by injection hb' with hb'; injection hb' with h1 _; exact hjh h1.symm)⟩
    · simp only [bapp, AH.app, S.bl]
    · have hj' : max H.nx (h + 1) ≤ j := hj
      simp only [AH.app]
      rw [upd_ne _ _ (by omega)]
      exact S.nx j (by omega)

/-! ### Scopes -/
inductive Sc (bl : Nat → Blk) : Cell → Prop
  | sc {v} : Sc bl (.sc v)
  | e0 : Sc bl .e0
  | lst {sz rows} : Sc bl (.lst sz rows)
  | sl {h n lo len} : bl h ≠ .none → Sc bl (.sl h n lo len)
  | ep {a sz i off} : Sc bl a → Sc bl (.ep a sz i off)
  | bp {h off} : bl h ≠ .none → Sc bl (.bp h off)
  | fn {f p q} : (∀ (i : Nat) c, p[i]? = some c → Sc bl c) → (∀ (i : Nat) c, q[i]? = some c → Sc bl c) → Sc bl (.fn f p q)
  | mp {h} : bl h ≠ .none → Sc bl (.mp h)
  | yl {h} : bl h ≠ .none → Sc bl (.yl h)
inductive ScV (bl : Nat → Blk) : AV → Prop
  | one {c} : Sc bl c → ScV bl (.one c)
  | agg {cs : List Cell} : (∀ (i : Nat) c, cs[i]? = some c → Sc bl c) → ScV bl (.agg cs)
  | tup {xs : List AV} : (∀ (i : Nat) x, xs[i]? = some x → ScV bl x) → ScV bl (.tup xs)
  | und : ScV bl .und
  | bad : ScV bl .bad

theorem RO.inSc {w : World} {own : Nat → Prop} {c : Cell} {v : Value} (h : RO w own c v) (bl : Nat → Blk) : Sc bl c := by
  cases h with
  | sc _ => exact .sc
  | e0 => exact .e0
  | fn => exact .fn (fun i c h => by simp at h) (fun i c h => by simp at h)
  | lst => exact .lst
  | nil => exact .lst
theorem CR.inSc {V : View} {c : Cell} {v : Value} (h : CR V c v) : Sc V.bl c := by
  induction h with
  | ro h => exact h.inSc _
  | sl h _ _ => exact .sl h
  | ep _ _ ih => exact .ep ih
  | bp h _ => exact .bp h
  | fn _ _ _ _ ih1 ih2 => exact .fn ih1 ih2
  | mp h _ => exact .mp h
  | yl h _ => exact .yl h
theorem VR.inSc {V : View} {x : AV} {v : Value} (h : VR V x v) : ScV V.bl x := by
  induction h with
  | one h => exact .one h.inSc
  | agg _ h => exact .agg (fun i c hc => (h i c hc).inSc)
  | tup _ _ ih => exact .tup ih
  | und => exact .und
  | bad => exact .bad

/-- A smaller heap: some blocks are let go. -/
structure Sub (bl0 : Nat → Blk) (V V' : View) : Prop where
  w : V'.w = V.w
  same : ∀ h, bl0 h ≠ .none → V'.bl h ≠ .none ∧ V'.bl h = V.bl h ∧ V'.mu h = V.mu h
  own : ∀ b, own V' b → own V b
theorem RO.sub {V V' : View} {bl0 : Nat → Blk} (S : Sub bl0 V V') {c : Cell} {v : Value} (h : RO V.w (own V) c v) : RO V'.w (own V') c v :=
  h.mono (fun b _ _ _ _ hb => ⟨by rw [S.w], fun ho => hb (S.own _ ho)⟩)
theorem CR.sub {V V' : View} {bl0 : Nat → Blk} (S : Sub bl0 V V') {c : Cell} {v : Value} (h : CR V c v) (hs : Sc bl0 c) : CR V' c v := by
  induction h with
  | ro h => exact .ro (h.sub S)
  | sl h1 h2 h3 =>
    cases hs with
    | sl hn =>
      obtain ⟨hn, h4, h5⟩ := S.same _ hn
      refine .sl hn h2 (fun sz rows hb => ?_)
      obtain ⟨h6, h7⟩ := h3 sz rows (h4 ▸ hb)
      refine ⟨h6, fun hl => ?_⟩
      have := h7 hl
      unfold SlOk at this ⊢
      rw [S.w, h5]
      exact this
  | ep _ h2 ih => cases hs with | ep hs => exact .ep (ih hs) h2
  | bp h1 h2 =>
    cases hs with
    | bp hn =>
      obtain ⟨hn, h4, h5⟩ := S.same _ hn
      exact .bp hn (fun cs hb => by rw [h5]; exact h2 cs (h4 ▸ hb))
  | fn h1 h2 _ _ ih1 ih2 => cases hs with | fn g1 g2 => exact .fn h1 h2 (fun i c hc => ih1 i c hc (g1 i c hc)) (fun i c hc => ih2 i c hc (g2 i c hc))
  | mp h1 h2 =>
    cases hs with
    | mp hn =>
      obtain ⟨hn, h4, h5⟩ := S.same _ hn
      exact .mp hn (fun cs hb => by rw [h5]; exact h2 cs (h4 ▸ hb))
  | yl h1 h2 =>
    cases hs with
    | yl hn =>
      obtain ⟨hn, h4, h5⟩ := S.same _ hn
      exact .yl hn (fun cs hb => by rw [h5]; exact h2 cs (h4 ▸ hb))
theorem VR.sub {V V' : View} {bl0 : Nat → Blk} (S : Sub bl0 V V') {x : AV} {v : Value} (h : VR V x v) (hs : ScV bl0 x) : VR V' x v := by
  induction h with
  | one h => cases hs with | one hs => exact .one (h.sub S hs)
  | agg h1 h2 => cases hs with | agg hs => exact .agg h1 (fun i c hc => (h2 i c hc).sub S (hs i c hc))
  | tup h1 _ ih => cases hs with | tup hs => exact .tup h1 (fun i x hx => ih i x hx (hs i x hx))
  | und => exact .und
  | bad => exact .bad _

/-- All that a block holds is inSc. -/
def ScB (bl : Nat → Blk) : Blk → Prop
  | .none | .dead => True
  | .box cs => ∀ (i : Nat) c, cs[i]? = some c → Sc bl c
  | .arr _ rows => ∀ i j c, rc rows i j = some c → Sc bl c
  | .map es => ∀ (i : Nat) k x, es[i]? = some (k, x) → ScV bl x
  | .loop r => ∀ t, ScV bl (r.env t)
theorem Holds.inSc {V : View} {b : Nat} {k : Blk} (h : Holds V b k) : ScB V.bl k := by
  cases k with
  | none => exact True.intro
  | dead => exact True.intro
  | box cs => obtain ⟨_, _, _, _, h⟩ := h; exact fun i c hc => (h i c hc).inSc
  | arr sz rows => obtain ⟨_, _, _, _, _, h⟩ := h; exact fun i j c hc => (h i j c hc).inSc
  | map es => obtain ⟨_, _, _, _, h⟩ := h; exact fun i k x hx => let ⟨_, _, _, h⟩ := h i k x hx; h.inSc
  | loop r => obtain ⟨_, _, h⟩ := h; exact fun t => (h.env t).inSc
theorem Holds.sub {V V' : View} {bl0 : Nat → Blk} (S : Sub bl0 V V') {b : Nat} {k : Blk} (h : Holds V b k) (hs : ScB bl0 k) : Holds V' b k := by
  cases k with
  | none => exact True.intro
  | dead => exact True.intro
  | box cs => obtain ⟨C, e, h1, h2, h3⟩ := h; exact ⟨C, e, by rw [S.w]; exact h1, h2, fun i c hc => (h3 i c hc).sub S (hs i c hc)⟩
  | arr sz rows => obtain ⟨h0, C, e, h1, h2, h3⟩ := h; exact ⟨h0, C, e, by rw [S.w]; exact h1, h2, fun i j c hc => (h3 i j c hc).sub S (hs i j c hc)⟩
  | map es =>
    obtain ⟨ents, cl, h1, h2, h3⟩ := h
    exact ⟨ents, cl, by rw [S.w]; exact h1, h2, fun i k x hx => let ⟨m, h4, h5, h6⟩ := h3 i k x hx; ⟨m, h4, h5, h6.sub S (hs i k x hx)⟩⟩
  | loop r =>
    obtain ⟨L, h1, h2⟩ := h
    exact ⟨L, by rw [S.w]; exact h1, ⟨h2.params, h2.assign, h2.body, fun t => (h2.env t).sub S (hs t), h2.ok, h2.ready, h2.done⟩⟩
theorem HR.sub {V V' : View} (S : Sub V'.bl V V') (H : HR V) (hs : ∀ h, V'.bl h ≠ .none → ScB V'.bl (V'.bl h)) (hh : ∀ b, V'.hid b → b < V'.w.heap.size ∧ ∀ h, (V'.bl h).live → V'.mu h ≠ b) : HR V' := by
  refine ⟨fun h => ?_, fun h h' hl hl' hm => ?_, hh⟩
  · by_cases hn : V'.bl h = .none
    · rw [hn]; exact True.intro
    · obtain ⟨_, h1, h2⟩ := S.same h hn
      have := H.holds h
      rw [← h1, ← h2] at this
      exact this.sub S (hs h hn)
  · have up : ∀ j, (V'.bl j).live → V'.bl j ≠ .none := by intro j hj e; rw [e] at hj; exact hj
    obtain ⟨_, h1, h2⟩ := S.same h (up _ hl)
    obtain ⟨_, h3, h4⟩ := S.same h' (up _ hl')
    rw [h1] at hl
    rw [h3] at hl'
    rw [h2, h4] at hm
    exact H.inj _ _ hl hl' hm

/-- The callee's own blocks are let go: the caller's heap is as it was. -/
theorem sit_back {V V1 : View} {H H1 : AH} (S : SitH V H) (S1 : SitH V1 H1) (T : Step V ⟨H.nx, H.bl, H.nx⟩ V1 H1) (hlo : H.nx ≤ H1.lo) :
    let V' : View := ⟨V1.w, V.mu, V.bl, V.hid⟩
    Sub V.bl V1 V' ∧ Step V H V' H ∧ SitH V' H ∧ (∀ b, own V' b → V1.hid b ∨ ∃ h, h < H.nx ∧ (V1.bl h).live ∧ V1.mu h = b) := by
  intro V'
  have hlt : ∀ h, V.bl h ≠ .none → h < H.nx := by
    intro h hn
    rcases Nat.lt_or_ge h H.nx with h1 | h1
    · exact h1
    · exact absurd (by rw [S.bl]; exact S.nx h h1) hn
  have hown : ∀ b, own V' b → V1.hid b ∨ ∃ h, h < H.nx ∧ (V1.bl h).live ∧ V1.mu h = b := by
    rintro b (hh | ⟨h, hl, hm⟩)
    · exact .inl (T.ext.hidk b hh).1
    have hn : V.bl h ≠ .none := by intro e; simp only [V', e] at hl; exact hl
    obtain ⟨h1, h2⟩ := T.keep h (Nat.lt_of_lt_of_le (hlt h hn) hlo) hn
    exact .inr ⟨h, hlt h hn, by rw [h1]; exact hl, by rw [h2]; exact hm⟩
  have hsub : Sub V.bl V1 V' := ⟨rfl, fun h hn => by
    obtain ⟨h1, h2⟩ := T.keep h (Nat.lt_of_lt_of_le (hlt h hn) hlo) hn
    exact ⟨hn, h1.symm, h2.symm⟩, fun b hb => by
    rcases hown b hb with h | ⟨h, _, h1, h2⟩
    · exact .inl h
    · exact .inr ⟨h, h1, h2⟩⟩
  have hH : HR V' := HR.sub hsub S1.hr (fun h hn => (S.hr.holds h).inSc) (fun b hb => ⟨Nat.lt_of_lt_of_le (S.hr.hid b hb).1 T.ext.size, (S.hr.hid b hb).2⟩)
  refine ⟨hsub, ⟨⟨⟨T.ext.size, fun b hb ho => ⟨(T.ext.keep b hb ho).1, fun ho' => ho ?_⟩, fun h => ?_⟩, T.ext.io, fun b hb => ⟨hb, (T.ext.hidk b hb).2⟩⟩, Nat.le_refl _, Nat.le_refl _, fun _ _ _ => ⟨rfl, rfl⟩⟩, ⟨S.bl, S.nx, hH⟩, hown⟩
  · exact ho'
  · have t := T.ext.turn h
    unfold Turn at t ⊢
    cases hb : V.bl h with
    | none => trivial
    | dead => rfl
    | box cs => exact .inr ⟨cs, rfl, rfl, rfl⟩
    | map es => exact .inr ⟨es, rfl, rfl⟩
    | loop r => exact ⟨r, rfl, rfl⟩
    | arr sz rows =>
      rw [hb] at t
      have hn : V.bl h ≠ .none := by rw [hb]; simp
      obtain ⟨h1, h2⟩ := T.keep h (Nat.lt_of_lt_of_le (hlt h hn) hlo) hn
      refine .inr ⟨rows, rfl, .inl ⟨rfl, rfl, ?_⟩⟩
      rcases t with t | ⟨rows', t, t2⟩
      · rw [h1, hb] at t; cases t
      · rw [h1, hb] at t
        injection t with _ t
        subst t
        rcases t2 with ⟨_, _, t3⟩ | t3
        · exact t3
        · omega

/-- What is let go reads as it did. -/
theorem frz_sound {V1 V' : View} {nx : Nat} (hr : HR V1) {bl0 : Nat → Blk} (hsub : Sub bl0 V1 V') (hown : ∀ b, own V' b → V1.hid b ∨ ∃ h, h < nx ∧ (V1.bl h).live ∧ V1.mu h = b) : ∀ (n : Nat) (c c' : Cell) (v : Value), CR V1 c v → frzC V1.bl nx n c = some c' → RO V'.w (own V') c' v := by
  intro n
  induction n with
  | zero => intro c c' v _ h; simp [frzC] at h
  | succ n ih =>
    intro c c' v hc h
    unfold frzC at h
    split at h
    · injection h with h; subst h
      obtain ⟨rfl, hp⟩ := hc.sc_inv
      exact .sc hp
    · injection h with h; subst h
      obtain ⟨A, rfl⟩ := hc.e0_inv
      exact .e0
    · injection h with h; subst h
      cases hc with
      | ro hc => exact hc.sub hsub
    · injection h with h; subst h
      cases hc with
      | ro hc => exact hc.sub hsub
      | @fn _ _ _ p' q' h1 h2 h3 h4 =>
        have e1 : p' = #[] := Array.eq_empty_of_size_eq_zero (by simpa using h1.symm)
        have e2 : q' = #[] := Array.eq_empty_of_size_eq_zero (by simpa using h2.symm)
        subst e1 e2
        exact .fn
    · rename_i h0 n' lo len
      split at h
      · rename_i hbase
        split at h
        · rename_i sz rows hb
          split at h
          · rename_i hlen
            obtain ⟨rows', hm, rfl⟩ := Option.map_eq_some_iff.1 h
            cases hc with
            | ro hc => cases hc
            | sl g1 g2 g3 =>
              obtain ⟨g4, g5⟩ := g3 _ _ hb
              obtain ⟨g6, cap', cells, e, fr, g7, g8, g9, g10⟩ := g5 hlen
              injection g10 with g11 _ g13
              injection g11 with g11
              subst g11 g13
              obtain ⟨hwid, C, e', hh, hsz, hcell⟩ := hr.at hb
              obtain ⟨m1, m2⟩ := mapM_get hm
              have hlr : rows'.length = len := by rw [m1]; simp; omega
              have hrow : ∀ (i : Nat) r', rows'[i]? = some r' → ∃ r, rows[lo + i]? = some r ∧ List.mapM (frzC V1.bl nx n) r = some r' := by
                intro i r' hr'
                have hi : i < ((rows.drop lo).take len).length := by rw [← m1]; exact (List.getElem?_eq_some_iff.1 hr').1
                obtain ⟨y, hy1, hy2⟩ := m2 i _ (List.getElem?_eq_getElem hi)
                rw [hr'] at hy2
                injection hy2 with hy2
                subst hy2
                refine ⟨_, ?_, hy1⟩
                have : ((rows.drop lo).take len)[i]? = rows[lo + i]? := by
                  rw [List.getElem?_take, if_pos (by omega), List.getElem?_drop]
                rw [← this]
                exact List.getElem?_eq_getElem hi
              have := @RO.lst V'.w (own V') sz rows' ⟨V1.mu h0, lo * sz, none⟩ _ (fun i j => C.getD ((lo + i) * sz + j) undef) (by rw [hlr]; exact g2) rfl (fun r' hr' => ?_) (fun i j c hc => ?_) (fun i j c hc => ?_)
              · rw [hlr] at this; exact this
              · obtain ⟨i, hi⟩ := List.getElem?_of_mem hr'
                obtain ⟨r, h1, h2⟩ := hrow i r' hi
                rw [(mapM_get h2).1]
                exact hwid r (List.mem_of_getElem? h1)
              · obtain ⟨r', h1, h2⟩ := rc_some hc
                obtain ⟨r, h3, h4⟩ := hrow i r' h1
                obtain ⟨k1, k2⟩ := mapM_get h4
                have hj : j < r.length := by rw [← k1]; exact (List.getElem?_eq_some_iff.1 h2).1
                have hrl := hwid r (List.mem_of_getElem? h3)
                have hi := (List.getElem?_eq_some_iff.1 h3).1
                have hlt : (lo + i) * sz + j < C.size := Nat.lt_of_lt_of_le (mul_lt_of hi (by omega)) hsz
                refine ⟨fun ho => ?_, ?_⟩
                · rcases hown _ ho with hh | ⟨h', hl', hlive, hmu⟩
                  · exact (hr.hid _ hh).2 h0 (by rw [hb]; trivial) rfl
                  have := hr.inj h' h0 hlive (by rw [hb]; trivial) hmu
                  omega
                · have he : lo * sz + (i * sz + j) = (lo + i) * sz + j := by rw [Nat.add_mul]; omega
                  simp only [he]
                  rw [hsub.w]
                  exact cell_block hh hlt
              · obtain ⟨r', h1, h2⟩ := rc_some hc
                obtain ⟨r, h3, h4⟩ := hrow i r' h1
                obtain ⟨k1, k2⟩ := mapM_get h4
                have hj : j < r.length := by rw [← k1]; exact (List.getElem?_eq_some_iff.1 h2).1
                obtain ⟨y, y1, y2⟩ := k2 j _ (List.getElem?_eq_getElem hj)
                rw [h2] at y2
                injection y2 with y2
                subst y2
                exact ih _ _ _ (hcell (lo + i) j _ (by unfold rc; rw [h3]; exact List.getElem?_eq_getElem hj)) y1
          · cases h
        · cases h
      · cases h
    · cases h

end Go.AM

namespace Go.AM

structure Fine (F : Fence) : Prop where
  fn : ∀ f, F.fn f
  depth : F.depth = none
theorem Fine.room {F : Fence} (h : Fine F) (k : Nat) : F.room k := fun d hd => by rw [h.depth] at hd; cases hd
theorem Fine.le1 {F : Fence} (h : Fine F) {n : Nat} : F.depth.isSome = true → 1 ≤ n := by rw [h.depth]; intro h; cases h
theorem Fine.inRound {F : Fence} (h : Fine F) (l : Nat) : Fine (F.inRound l) := ⟨h.fn, h.depth⟩
theorem Fine.plain {F : Fence} (h : Fine F) : Fine F.plain := ⟨h.fn, h.depth⟩

structure ASR (V : View) (xs : List AV) (vs : Array Value) : Prop where
  len : xs.length = vs.size
  get : ∀ (i : Nat) (x : AV), xs[i]? = some x → VR V x (vs.getD i undef)
theorem ASR.mono {V V' : View} (E : Ext V V') {xs : List AV} {vs : Array Value} (h : ASR V xs vs) : ASR V' xs vs := ⟨h.len, fun i x hx => (h.get i x hx).mono E⟩

def CallPost (V : View) (H : AH) (r : AV) (e : Eff) : Ending → World → Prop
  | .returned v, w' => ∃ V' : View, V'.w = w' ∧ Step V H V' (e.app H) ∧ SitH V' (e.app H) ∧ VR V' r v
  | _, _ => False

def InvOk (F : Fence) (n : Nat) (P : Program) (s : Sem Next) (w : World) (R : Ending → World → Prop) : Prop :=
  (∃ f args, s.run P w = .ok (.enter f args) w ∧ CallsIn F n P f args w R) ∨
  (∃ l f tmps as bd, s.run P w = .ok (.round l f tmps as bd) w ∧ RoundIn F n P l f tmps as bd w R)

def calling (fv : Value) (vals : Array Value) : Sem Next := do
  let d ← Deferred.ofValue fv vals
  invoke d.target d.args

def CallOk (P : Program) (call : CallFn) : Prop := ∀ (F : Fence), Fine F → ∀ (n : Nat) (fc : Cell) (args : List AV) (H : AH) (r : AV) (e : Eff), call fc args H = some (r, e) →
  ∀ (V : View) (fv : Value) (vals : Array Value), SitH V H → CR V fc fv → ASR V args vals → InvOk F n P (calling fv vals) V.w (CallPost V H r e)

theorem aop_defer {P : Program} {nw : Nat} {bl : Nat → Blk} {env : Env} {o : Oper} {c : Call} (h : o.op = .defer c) : aop P nw bl env o = none := by
  unfold aop
  rw [h]

theorem args_sound {V : View} {env : Env} {a : Act} (R : ER V env a.tmps) (args : Array Operand) : ASR V (args.toList.map (evo env)) (args.map a.eval) := by
  refine ⟨by simp, fun i x hx => ?_⟩
  rw [List.getElem?_map] at hx
  obtain ⟨y, hy, rfl⟩ := Option.map_eq_some_iff.1 hx
  have hlt : i < args.size := by have := (List.getElem?_eq_some_iff.1 hy).1; simpa using this
  have he : args[i] = y := by simpa [hlt] using hy
  have : (args.map a.eval).getD i undef = a.eval y := by simp [Array.getD, hlt, he]
  rw [this]
  exact evo_sound R y

theorem step1_wp {P : Program} {call : CallFn} (hc : CallOk P call) {F : Fence} (hF : Fine F) {n : Nat} {o : Oper} {a : Act} {env : Env} {V : View} {H : AH} {v : AV} {d : Del}
    {K : Act → World → Prop} {Q : Exit → Act → World → Prop} (S : SitH V H) (R : ER V env a.tmps) (h : step1 P call env H o = some (v, d))
    (k : ∀ (V' : View) (v' : Value), Step V H V' (d.app H) → SitH V' (d.app H) → VR V' v v' → K (a.put o.dst v') V'.w) : o.wpIn F n P a V.w K Q := by
  unfold step1 at h
  refine ⟨fun f _ => hF.fn f, ?_⟩
  split at h
  · rename_i f args ats hop
    have hd : ∀ c, o.op ≠ .defer c := by intro c hc; rw [hop] at hc; cases hc
    rw [Oper.semAt_eq _ _ _ hd]
    split at h
    · rename_i fc hfc
      obtain ⟨⟨r, e⟩, hcall, he⟩ := Option.map_eq_some_iff.1 h
      injection he with h1 h2
      subst h1 h2
      have hex : execOp a.eval o = calling (a.eval f) (args.map a.eval) := by unfold execOp; rw [hop]; rfl
      rw [hex]
      rcases hc F hF (n - 1) _ _ _ _ _ hcall V _ _ S (cell_sound (evo_sound R f) hfc) (args_sound R args) with ⟨g, xs, hr, hg⟩ | ⟨l, g, ts, as, bd, hr, hg⟩
      · rw [hr]
        refine ⟨hF.le1, hg.mono (fun e w' he => ?_)⟩
        cases e with
        | returned v' =>
          obtain ⟨V', rfl, h1, h2, h3⟩ := he
          exact k V' v' h1 h2 h3
        | panicked _ => exact he.elim
        | outgrown => exact he.elim
      · rw [hr]
        refine ⟨hF.le1, hg.mono (fun e w' he => ?_)⟩
        cases e with
        | returned v' =>
          obtain ⟨V', rfl, h1, h2, h3⟩ := he
          exact k V' v' h1 h2 h3
        | panicked _ => exact he.elim
        | outgrown => exact he.elim
    · cases h
  · obtain ⟨⟨r, e⟩, hop, he⟩ := Option.map_eq_some_iff.1 h
    injection he with h1 h2
    subst h1 h2
    have hd : ∀ c, o.op ≠ .defer c := by intro c hc; rw [aop_defer hc] at hop; cases hop
    rw [Oper.semAt_eq _ _ _ hd]
    rw [← S.bl] at hop
    obtain ⟨r', w', mu', v', hrun, hr', hE, hH, hv, hk⟩ := aop_sound S.hr R (by rw [S.bl]; exact S.nx _ (Nat.le_refl _)) hop
    obtain ⟨h1, h2⟩ := step_app S hE hH hk
    rw [hrun]
    rcases hr' with rfl | ⟨rfl, rfl⟩
    · exact k _ v' h1 h2 hv
    · exact k _ undef h1 h2 hv

theorem ER.put {V : View} {env : Env} {a : Act} (R : ER V env a.tmps) {dst : Option Tmp} {v : AV} {v' : Value} (hv : VR V v v') (hd : ∀ d, dst = some d → d < a.tmps.size) :
    ER V (putE env dst v) (a.put dst v').tmps := by
  cases dst with
  | none => exact R
  | some d =>
    intro t
    have hlt := hd d rfl
    simp only [putE, Act.put]
    by_cases ht : t = d
    · subst ht
      rw [upd_same]
      have : (a.tmps.setIfInBounds t v').getD t undef = v' := by simp [Array.getD, hlt]
      rw [this]; exact hv
    · rw [upd_ne _ _ ht]
      have : (a.tmps.setIfInBounds d v').getD t undef = a.tmps.getD t undef := by
        simp only [Array.getD_eq_getD_getElem?]
        rw [Array.getElem?_setIfInBounds_ne (Ne.symm ht)]
      rw [this]; exact R t

theorem put_size (a : Act) (dst : Option Tmp) (v : Value) : (a.put dst v).tmps.size = a.tmps.size := by
  cases dst <;> simp [Act.put]
theorem put_defers (a : Act) (dst : Option Tmp) (v : Value) : (a.put dst v).defers = a.defers := by
  cases dst <;> simp [Act.put]

theorem wanted_sound {V : View} {env : Env} {a : Act} (R : ER V env a.tmps) {ops : Array Oper} {o : Oper} {b : Bool} (h : wantedA ops env o = some b) :
    Region.wanted o (yielded ops a.tmps) = b := by
  unfold wantedA at h
  unfold Region.wanted
  split at h
  · rename_i hg
    injection h with h
    rw [hg]; exact h
  · rename_i j want hg
    rw [hg]
    simp only
    unfold yielded
    split at h
    · rename_i d hd
      rw [hd]
      simp only [Option.bind_some]
      have := R d
      split at h
      · rename_i b' hb
        injection h with h
        rw [hb] at this
        have hv := toV_sound this _ rfl
        have : a.tmps[d]? = some (.bool b') := by
          rw [Array.getD_eq_getD_getElem?] at hv
          cases hx : a.tmps[d]? with
          | none => rw [hx] at hv; simp [undef] at hv
          | some u => rw [hx] at hv; simp at hv; rw [hv]
        rw [this, ← h]
        cases b' <;> cases want <;> rfl
      · rename_i hb
        injection h with h
        rw [hb] at this
        have hu : a.tmps[d]? = none ∨ a.tmps[d]? = some undef := by
          cases hx : a.tmps[d]? with
          | none => exact .inl rfl
          | some u =>
            rw [Array.getD_eq_getD_getElem?, hx] at this
            simp at this
            cases this
            exact .inr rfl
        subst h
        rcases hu with hu | hu <;> rw [hu] <;> rfl
      · cases h
    · cases h

/-- One operation of a region, its guard looked at. -/
theorem stepD_wp {P : Program} {call : CallFn} (hc : CallOk P call) {F : Fence} (hF : Fine F) {n : Nat} {ops : Array Oper} {i : Nat} {o : Oper} (ho : ops[i]? = some o) {a : Act} {env env' : Env} {V : View} {H H' : AH} {ev : Option Evt}
    {base : Nat} {K : Act → World → Prop} {Q : Exit → Act → World → Prop} (S : Sit V H env F.round base a) (hd : dstOk a.tmps.size o = true) (h : stepD P call ops o env H = some (env', H', ev))
    (k : ∀ (V' : View) (a' : Act), Step V H V' H' → Sit V' H' env' F.round base a' → a'.tmps.size = a.tmps.size → K a' V'.w) : wpOpIn F n P ops Q i K a V.w := by
  have hdst : ∀ d, o.dst = some d → d < a.tmps.size := by
    intro d he; unfold dstOk at hd; rw [he] at hd; simpa using hd
  unfold stepD at h
  unfold wpOpIn
  rw [ho]
  simp only
  split at h
  · rename_i hw
    rw [wanted_sound S.er hw, if_pos rfl]
    split at h
    · rename_i v d hs
      injection h with h; injection h with h1 h2; injection h2 with h2 h3
      subst h1 h2
      refine step1_wp hc hF S.toSitH S.er hs (fun V' v' h4 h5 h6 => k V' _ h4 ⟨h5, (S.er.mono h4.ext).put h6 hdst, ?_, S.rd.mono h4.ext⟩ (put_size ..))
      rw [put_defers]; exact S.dr.mono h4.ext
    · cases h
  · rename_i hw
    injection h with h; injection h with h1 h2; injection h2 with h2 h3
    subst h1 h2
    rw [wanted_sound S.er hw, if_neg (by simp)]
    refine ⟨fun f _ => hF.fn f, k V _ (Step.refl ..) ⟨S.toSitH, S.er.put .und hdst, ?_, S.rd⟩ (put_size ..)⟩
    rw [put_defers]; exact S.dr
  · cases h

theorem aops_wp {P : Program} {call : CallFn} (hc : CallOk P call) {F : Fence} (hF : Fine F) {n : Nat} {ops : Array Oper} {base : Nat} {Q : Exit → Act → World → Prop} :
    ∀ (m i : Nat), m + i = ops.size → ∀ (a : Act) (env env' : Env) (V : View) (H H' : AH), Sit V H env F.round base a → (∀ o ∈ ops.toList, dstOk a.tmps.size o = true) → aops P call ops (ops.toList.drop i) env H = some (env', H') →
      (∀ (V' : View) (a' : Act), Step V H V' H' → Sit V' H' env' F.round base a' → a'.tmps.size = a.tmps.size → Q .normal a' V'.w) → wpOpsIn F n P ops Q (List.range' i m) a V.w := by
  intro m
  induction m with
  | zero =>
    intro i hi a env env' V H H' S hd h k
    have : ops.toList.drop i = [] := by apply List.drop_eq_nil_of_le; simp; omega
    rw [this] at h
    simp only [aops] at h
    injection h with h; injection h with h1 h2
    subst h1 h2
    exact k V a (Step.refl ..) S rfl
  | succ m ih =>
    intro i hi a env env' V H H' S hd h k
    have hlt : i < ops.size := by omega
    have hdrop : ops.toList.drop i = ops[i] :: ops.toList.drop (i + 1) := by
      rw [List.drop_eq_getElem_cons (by simpa using hlt)]; simp
    rw [hdrop] at h
    simp only [aops] at h
    split at h
    · rename_i env1 H1 ev hs
      rw [List.range'_succ, wpOpsIn_cons]
      refine stepD_wp hc hF (Array.getElem?_eq_getElem hlt) S (hd _ (by simp)) hs (fun V1 a1 hst S1 hsz => ?_)
      refine ih (i + 1) (by omega) a1 env1 env' V1 H1 H' S1 (by rw [hsz]; exact hd) h (fun V' a' hst' S' hsz' => k V' a' (hst.trans hst') S' (hsz'.trans hsz))
    · cases h

theorem region_wp {P : Program} {call : CallFn} (hc : CallOk P call) {F : Fence} (hF : Fine F) {n : Nat} {id : Nat} {ops : Array Oper} {base : Nat} {Q : Exit → Act → World → Prop} {a : Act} {env env' : Env} {V : View} {H H' : AH} (S : Sit V H env F.round base a)
    (hd : ∀ o ∈ ops.toList, dstOk a.tmps.size o = true) (h : aops P call ops ops.toList env H = some (env', H'))
    (k : ∀ (V' : View) (a' : Act), Step V H V' H' → Sit V' H' env' F.round base a' → a'.tmps.size = a.tmps.size → Q .normal a' V'.w) : (Code.region id ops false).wpIn F n P Q a V.w := by
  refine wpIn_region ?_
  rw [List.range_eq_range']
  exact aops_wp hc hF ops.size 0 (by omega) a env env' V H H' S hd (by simpa using h) k

end Go.AM

namespace Go.AM

theorem run_lmapM {α β : Type} {P : Program} {f : α → Sem β} {w : World} : ∀ {l : List α} {r : List β}, r.length = l.length → (∀ (i : Nat) x, l[i]? = some x → ∃ y, r[i]? = some y ∧ (f x).run P w = .ok y w) → (l.mapM f).run P w = .ok r w := by
  intro l
  induction l with
  | nil => intro r h _; cases r with | nil => simp [Sem.run_pure] | cons _ _ => simp at h
  | cons a l ih =>
    intro r h hg
    cases r with
    | nil => simp at h
    | cons b r =>
      obtain ⟨y, hy, hr⟩ := hg 0 a rfl
      simp at hy
      subst hy
      have := ih (r := r) (by simpa using h) (fun i x hx => by simpa using hg (i + 1) x (by simpa using hx))
      simp [List.mapM_cons, Sem.run_bind, hr, Result.andThen, this]
theorem run_amapM {α β : Type} {P : Program} {f : α → Sem β} {w : World} {l : Array α} {r : List β} (h : r.length = l.size) (hg : ∀ (i : Nat) x, l.toList[i]? = some x → ∃ y, r[i]? = some y ∧ (f x).run P w = .ok y w) : (l.mapM f).run P w = .ok r.toArray w := by
  rw [Array.mapM_eq_mapM_toList]
  have := run_lmapM (P := P) (f := f) (w := w) (l := l.toList) (r := r) (by simpa using h) hg
  rw [map_eq_pure_bind, Sem.run_bind, this]
  rfl

/-- What is handed back, one or many. -/
theorem single_vr {V : View} {xs : List AV} {vs : List Value} (hl : xs.length = vs.length) (h : ∀ (i : Nat) x, xs[i]? = some x → VR V x (vs.toArray.getD i undef)) :
    VR V (single xs) (if h : vs.toArray.size = 1 then vs.toArray[0] else .tuple vs.toArray) := by
  cases xs with
  | nil =>
    have hv : vs = [] := by cases vs with | nil => rfl | cons _ _ => simp at hl
    subst hv
    simp only [single, List.size_toArray, List.length_nil, Nat.zero_ne_one, dif_neg, not_false_eq_true]
    exact .tup rfl (fun i x hx => by simp at hx)
  | cons x xs =>
    cases xs with
    | nil =>
      have h1 : vs.toArray.size = 1 := by simp at hl; simpa using hl.symm
      rw [dif_pos h1]
      have := h 0 x rfl
      simp only [single]
      have e : vs.toArray.getD 0 undef = vs.toArray[0] := by simp [Array.getD, h1]
      rw [← e]; exact this
    | cons y xs =>
      have h1 : ¬ vs.toArray.size = 1 := by simp at hl; simp; omega
      rw [dif_neg h1]
      exact .tup (by simpa using hl) h

theorem results_sound {P : Program} {V : View} (H : HR V) {env : Env} {tmps : Array Value} (R : ER V env tmps) {fn : Func} {xs : List AV} (h : resultsA P fn env V.bl = some xs) :
    ∃ v, (results fn tmps).run P V.w = .ok v V.w ∧ VR V (single xs) v := by
  unfold resultsA at h
  obtain ⟨h1, h2⟩ := mapM_get h
  have key : ∀ (i : Nat), i < xs.length → ∃ y : Value, VR V (xs.getD i .und) y ∧ ∀ x, fn.results.toList[i]? = some x → ((match x with
      | .tmp t => pure (tmps.getD t undef)
      | .cell a t => do loadVar t (← asAddr (tmps.getD a undef)) : Sem Value)).run P V.w = .ok y V.w := by
    intro i hi
    have hlt : i < fn.results.toList.length := by omega
    obtain ⟨x, hx1, hx2⟩ := h2 i _ (List.getElem?_eq_getElem hlt)
    have hxs : xs.getD i .und = x := by simp [List.getD, hx2]
    rw [hxs]
    cases hr : fn.results.toList[i] with
    | tmp t =>
      rw [hr] at hx1
      simp only at hx1
      injection hx1 with hx1
      subst hx1
      exact ⟨_, R t, fun x hx => by rw [List.getElem?_eq_getElem hlt, hr] at hx; injection hx with hx; subst hx; simp [Sem.run_pure]⟩
    | cell a t =>
      rw [hr] at hx1
      simp only at hx1
      split at hx1
      · rename_i p hp
        have hc := cell_sound (R a) hp
        split at hx1
        · rename_i s ha hs
          obtain ⟨cs, hcs, rfl⟩ := Option.map_eq_some_iff.1 hx1
          obtain ⟨ad, us, hv, hrun, hcsr⟩ := run_loadVarA H hc ha hs hcs
          refine ⟨_, .agg hcsr.len hcsr.get, fun x hx => ?_⟩
          rw [List.getElem?_eq_getElem hlt, hr] at hx; injection hx with hx; subst hx
          simp only [hv, asAddr, Sem.run_bind, Sem.run_pure, Result.andThen]
          exact hrun
        · rename_i _ ha
          split at hx1
          · rename_i c hcs
            injection hx1 with hx1
            subst hx1
            obtain ⟨ad, u, hv, hrun, hcu⟩ := run_loadVar1 H hc ha hcs
            refine ⟨_, .one hcu, fun x hx => ?_⟩
            rw [List.getElem?_eq_getElem hlt, hr] at hx; injection hx with hx; subst hx
            simp only [hv, asAddr, Sem.run_bind, Sem.run_pure, Result.andThen]
            exact hrun
          · cases hx1
        · cases hx1
      · cases hx1
  have : ∃ vs : List Value, vs.length = xs.length ∧ ∀ i, i < xs.length → VR V (xs.getD i .und) (vs.getD i undef) ∧ ∀ x, fn.results.toList[i]? = some x → ((match x with
      | .tmp t => pure (tmps.getD t undef)
      | .cell a t => do loadVar t (← asAddr (tmps.getD a undef)) : Sem Value)).run P V.w = .ok (vs.getD i undef) V.w := by
    have : ∀ n, n ≤ xs.length → ∃ vs : List Value, vs.length = n ∧ ∀ i, i < n → VR V (xs.getD i .und) (vs.getD i undef) ∧ ∀ x, fn.results.toList[i]? = some x → ((match x with
      | .tmp t => pure (tmps.getD t undef)
      | .cell a t => do loadVar t (← asAddr (tmps.getD a undef)) : Sem Value)).run P V.w = .ok (vs.getD i undef) V.w := by
      intro n
      induction n with
      | zero => exact fun _ => ⟨[], rfl, fun i hi => absurd hi (by omega)⟩
      | succ n ih =>
        intro hn
        obtain ⟨vs, hl, hv⟩ := ih (by omega)
        obtain ⟨y, hy1, hy2⟩ := key n (by omega)
        refine ⟨vs ++ [y], by simp [hl], fun i hi => ?_⟩
        by_cases hin : i = n
        · subst hin
          have : (vs ++ [y]).getD i undef = y := by simp [List.getD, ← hl]
          rw [this]; exact ⟨hy1, hy2⟩
        · have : (vs ++ [y]).getD i undef = vs.getD i undef := by
            simp only [List.getD]; rw [List.getElem?_append_left (by omega)]
          rw [this]; exact hv i (by omega)
    exact this _ (Nat.le_refl _)
  obtain ⟨vs, hl, hv⟩ := this
  have hrun : (fn.results.mapM fun
    | .tmp t => pure (tmps.getD t undef)
    | .cell a t => do loadVar t (← asAddr (tmps.getD a undef)) : Sem (Array Value)).run P V.w = .ok vs.toArray V.w := by
    refine run_amapM (by simp at h1; omega) (fun i x hx => ?_)
    have hi : i < xs.length := by have := (List.getElem?_eq_some_iff.1 hx).1; omega
    refine ⟨vs.getD i undef, ?_, (hv i hi).2 x hx⟩
    have : i < vs.length := by omega
    simp [List.getD, this]
  refine ⟨_, ?_, single_vr (V := V) (xs := xs) (vs := vs) hl.symm (fun i x hx => ?_)⟩
  · unfold results
    rw [Sem.run_bind]
    exact Eq.trans (congrArg (fun r : Result (Array Value) => r.andThen (fun a w' => Sem.run P (pure (if h : a.size = 1 then a[0] else Value.tuple a)) w')) hrun) rfl
  · have hi := (List.getElem?_eq_some_iff.1 hx).1
    have := (hv i hi).1
    have e1 : xs.getD i .und = x := by simp [List.getD, hx]
    have e2 : vs.toArray.getD i undef = vs.getD i undef := by simp [Array.getD_eq_getD_getElem?, List.getD]
    rw [e1] at this
    rw [e2]; exact this

/-- A round's block is shut. -/
theorem shut {V : View} (H : HR V) {r : Nat} (hr : V.w.heap[r]? = some (.deferred (some []))) (ho : ¬ own V r) :
    let V' : View := ⟨V.w.putObj r (.deferred none), V.mu, V.bl, V.hid⟩
    ExtW V V' ∧ HR V' ∧ V.w.heap.size = V'.w.heap.size ∧ ∀ b, b ≠ r → V'.w.heap[b]? = V.w.heap[b]? := by
  intro V'
  have hne : ∀ b, b ≠ r → V'.w.heap[b]? = V.w.heap[b]? := fun b hb => World.putObj_heap_other hb
  have hlive : ∀ h, (V.bl h).live → V.mu h ≠ r := fun h hl e => ho (.inr ⟨h, hl, e⟩)
  have E : ExtW V V' := by
    refine ⟨fun b C e fr hb hn => ⟨hne b (fun hbr => ?_), hn⟩, fun h => ?_⟩
    · subst hbr; rw [hr] at hb; cases hb
    · exact .of_same rfl rfl (fun hl => hne _ (hlive h hl))
  refine ⟨E, ⟨fun h => ?_, H.inj, fun b hb => ⟨by simp only [V', World.putObj_size]; exact (H.hid b hb).1, (H.hid b hb).2⟩⟩, by simp [V'], hne⟩
  show Holds V' (V.mu h) (V.bl h)
  cases hb : V.bl h with
  | none => trivial
  | dead => trivial
  | _ => rw [← hb]; exact (H.holds h).mono0 E (hne _ (hlive h (by rw [hb]; trivial)))

/-- All rounds' blocks are shut; then what is asked is asked of the world that is left. -/
theorem marks_sound {P : Program} {F : Fence} {n : Nat} {fn : Func} {tmps : Array Value} {R : Ending → World → Prop} {base : Nat} : ∀ (rs : List Nat) (V : View), HR V → rs.Nodup → (∀ r ∈ rs, (V.w.heap[r]? = some (.deferred (some [])) ∧ ¬ own V r) ∧ base ≤ r) →
    (∀ V' : View, ExtW V V' → HR V' → V'.mu = V.mu → V'.bl = V.bl → V'.hid = V.hid → V.w.heap.size = V'.w.heap.size → Wio V.w V'.w → (∀ b, b < base ∨ own V b → V'.w.heap[b]? = V.w.heap[b]?) → ∃ v, (results fn tmps).run P V'.w = .ok v V'.w ∧ R (.returned v) V'.w) →
    LeavesInM F n P fn tmps R (rs.map (fun r => { target := .collected r, args := #[] })) .returning V.w := by
  intro rs
  induction rs with
  | nil =>
    intro V H _ _ k
    exact k V (Ext.refl V).toW H rfl rfl rfl rfl ⟨rfl, rfl, rfl⟩ (fun _ _ => rfl)
  | cons r rs ih =>
    intro V H hnd hr k
    obtain ⟨⟨h1, h2⟩, h3⟩ := hr r (by simp)
    obtain ⟨E, H', hs, hne⟩ := shut H h1 h2
    have hnd' := List.nodup_cons.1 hnd
    refine ⟨by simp, .inl ⟨r, V.w.putObj r (.deferred none), rfl, run_takeDeferred h1, ?_⟩⟩
    refine ih ⟨V.w.putObj r (.deferred none), V.mu, V.bl, V.hid⟩ H' hnd'.2 (fun r' hr' => ?_) (fun V2 E2 H2 hm hb hh hs2 hi2 hk => ?_)
    · have hrr : r' ≠ r := fun e => hnd'.1 (e ▸ hr')
      obtain ⟨⟨h4, h5⟩, h6⟩ := hr r' (by simp [hr'])
      exact ⟨⟨(hne r' hrr).trans h4, h5⟩, h6⟩
    · refine k V2 ⟨fun b C e fr hb' hn => ?_, fun h => (E.turn h).trans (E2.turn h)⟩ H2 hm hb hh (hs.trans hs2) hi2 (fun b hb' => ?_)
      · obtain ⟨e1, n1⟩ := E.keepC b C e fr hb' hn
        obtain ⟨e2, n2⟩ := E2.keepC b C e fr (e1.trans hb') n1
        exact ⟨e2.trans e1, n2⟩
      · have hbr : b ≠ r := by
          rcases hb' with hb' | hb'
          · omega
          · intro e; subst e; exact h2 hb'
        exact (hk b hb').trans (hne b hbr)

end Go.AM

namespace Go.AM

theorem frzCs_sound {V1 V' : View} {nx : Nat} (hr : HR V1) {bl0 : Nat → Blk} (hsub : Sub bl0 V1 V') (hown : ∀ b, own V' b → V1.hid b ∨ ∃ h, h < nx ∧ (V1.bl h).live ∧ V1.mu h = b) {x x' : AV} {v : Value} (hx : VR V1 x v) (h : frzV V1.bl nx x = some x') : VR V' x' v := by
  cases hx with
  | one hc =>
    obtain ⟨c', hc', rfl⟩ := Option.map_eq_some_iff.1 h
    exact .one (.ro (frz_sound hr hsub hown _ _ _ _ hc hc'))
  | @agg cs vs h1 h2 =>
    obtain ⟨cs', hcs', rfl⟩ := Option.map_eq_some_iff.1 h
    obtain ⟨h3, h4⟩ := mapM_get hcs'
    refine .agg (by omega) (fun i c hc => ?_)
    have hlt : i < cs.length := by have := (List.getElem?_eq_some_iff.1 hc).1; omega
    obtain ⟨y, hy, hy2⟩ := h4 i _ (List.getElem?_eq_getElem hlt)
    rw [hc] at hy2
    injection hy2 with hy2
    subst hy2
    exact .ro (frz_sound hr hsub hown _ _ _ _ (h2 i _ (List.getElem?_eq_getElem hlt)) hy)
  | und => simp only [frzV] at h; injection h with h; subst h; exact .und
  | tup _ _ => simp [frzV] at h
  | bad => simp [frzV] at h
theorem frzR_sound {V1 V' : View} {nx : Nat} (hr : HR V1) {bl0 : Nat → Blk} (hsub : Sub bl0 V1 V') (hown : ∀ b, own V' b → V1.hid b ∨ ∃ h, h < nx ∧ (V1.bl h).live ∧ V1.mu h = b) {x x' : AV} {v : Value} (hx : VR V1 x v) (h : frzR V1.bl nx x = some x') : VR V' x' v := by
  unfold frzR at h
  split at h
  · rename_i xs
    obtain ⟨xs', hxs', rfl⟩ := Option.map_eq_some_iff.1 h
    obtain ⟨h3, h4⟩ := mapM_get hxs'
    cases hx with
    | @tup _ vs h1 h2 =>
      refine .tup (by omega) (fun i c hc => ?_)
      have hlt : i < xs.length := by have := (List.getElem?_eq_some_iff.1 hc).1; omega
      obtain ⟨y, hy, hy2⟩ := h4 i _ (List.getElem?_eq_getElem hlt)
      rw [hc] at hy2
      injection hy2 with hy2
      subst hy2
      exact frzCs_sound hr hsub hown (h2 i _ (List.getElem?_eq_getElem hlt)) hy
  · exact frzCs_sound hr hsub hown hx h

theorem frz0_sound {V : View} {c c' : Cell} {v : Value} (hc : CR V c v) (h : frz0 c = some c') : RO V.w (own V) c' v := by
  unfold frz0 at h
  split at h
  · injection h with h; subst h
    obtain ⟨rfl, hp⟩ := hc.sc_inv
    exact .sc hp
  · injection h with h; subst h
    obtain ⟨A, rfl⟩ := hc.e0_inv
    exact .e0
  · injection h with h; subst h
    cases hc with
    | ro hc => exact hc
  · injection h with h; subst h
    cases hc with
    | ro hc => exact hc
    | @fn _ _ _ p' q' h1 h2 h3 h4 =>
      have e1 : p' = #[] := Array.eq_empty_of_size_eq_zero (by simpa using h1.symm)
      have e2 : q' = #[] := Array.eq_empty_of_size_eq_zero (by simpa using h2.symm)
      subst e1 e2
      exact .fn
  · cases h

theorem Turn.congr {V V1 V2 : View} {h : Nat} (t : Turn V V1 h) (hb : V2.bl h = V1.bl h) (hm : V2.mu h = V1.mu h) (hw : V2.w = V1.w) : Turn V V2 h := by
  unfold Turn at t ⊢
  cases hv : V.bl h <;> rw [hv] at t <;> simp only [hb, hm, hw] <;> exact t

theorem keepRow_some {bl : Nat → Blk} {nx : Nat} {r : AV} {n : Nat} {b : Blk} (h : keepRow bl nx r = some (n, b)) :
    ∃ hd sz rows rows', r = .one (.sl hd n 0 n) ∧ nx ≤ hd ∧ bl hd = .arr sz rows ∧ rows.length = n ∧ (rows.mapM fun r => List.mapM frz0 r) = some rows' ∧ b = .arr sz rows' := by
  unfold keepRow at h
  split at h
  · rename_i hd n' len
    split at h
    · rename_i hc
      split at h
      · rename_i sz rows hb
        split at h
        · rename_i hl
          obtain ⟨rows', hm, he⟩ := Option.map_eq_some_iff.1 h
          injection he with h1 h2
          subst h1
          exact ⟨hd, sz, rows, rows', by rw [hc.2], hc.1, hb, hl, hm, h2.symm⟩
        · cases h
      · cases h
    · cases h
  · cases h

theorem made_sound {V V1 : View} {H H1 : AH} {r0 : AV} {v : Value} {n : Nat} {b : Blk} (S : SitH V H) (S1 : SitH V1 H1) (T : Step V ⟨H.nx, H.bl, H.nx⟩ V1 H1) (hlo : H.nx ≤ H1.lo) (hv : VR V1 r0 v) (hk : keepRow H1.bl H.nx r0 = some (n, b)) :
    ∃ V' : View, V'.w = V1.w ∧ Step V H V' (H.app (some (H.nx, b))) ∧ SitH V' (H.app (some (H.nx, b))) ∧ VR V' (.one (.sl H.nx n 0 n)) v := by
  obtain ⟨hd, sz, rows, rows', rfl, hnx, hb1, hl, hm, rfl⟩ := keepRow_some hk
  have hbV1 : V1.bl hd = .arr sz rows := by rw [S1.bl]; exact hb1
  have hlive : (V1.bl hd).live := by rw [hbV1]; trivial
  have hVnx : ∀ j, V.bl j ≠ .none → j < H.nx := by
    intro j hn
    rcases Nat.lt_or_ge j H.nx with h1 | h1
    · exact h1
    · exact absurd (by rw [S.bl]; exact S.nx j h1) hn
  have hkeep : ∀ j, V.bl j ≠ .none → V1.bl j = V.bl j ∧ V1.mu j = V.mu j := fun j hn => T.keep j (Nat.lt_of_lt_of_le (hVnx j hn) hlo) hn
  have hup : ∀ j, (V.bl j).live → V.bl j ≠ .none := by intro j hj e; rw [e] at hj; exact hj
  have hmu : ∀ j, (V.bl j).live → V.mu j ≠ V1.mu hd := by
    intro j hj e
    obtain ⟨h1, h2⟩ := hkeep j (hup j hj)
    have := S1.hr.inj j hd (by rw [h1]; exact hj) hlive (by rw [h2]; exact e)
    have := hVnx j (hup j hj)
    omega
  have hnot : ¬ own V (V1.mu hd) := by
    rintro (hh | ⟨j, hj, e⟩)
    · exact (S1.hr.hid _ (T.ext.hidk _ hh).1).2 hd hlive rfl
    · exact hmu j hj e
  have hge : V.w.heap.size ≤ V1.mu hd := by
    rcases Nat.lt_or_ge (V1.mu hd) V.w.heap.size with h1 | h1
    · exact absurd (.inr ⟨hd, hlive, rfl⟩) (T.ext.keep _ h1 hnot).2
    · exact h1
  obtain ⟨_, hTb, _, _⟩ := sit_back S S1 T hlo
  let V' : View := ⟨V1.w, upd V.mu H.nx (V1.mu hd), upd V.bl H.nx (.arr sz rows'), V.hid⟩
  have hsame : ∀ j, V.bl j ≠ .none → V'.bl j = V.bl j ∧ V'.mu j = V.mu j := by
    intro j hn
    have : j ≠ H.nx := by have := hVnx j hn; omega
    exact ⟨upd_ne _ _ this, upd_ne _ _ this⟩
  have hlv : ∀ j, (V'.bl j).live → j = H.nx ∨ (V.bl j).live := by
    intro j hj
    by_cases e : j = H.nx
    · exact .inl e
    · right; simp only [V', upd_ne _ _ e] at hj; exact hj
  have hown1 : ∀ b, own V' b → own V1 b := by
    rintro b (hh | ⟨j, hj, rfl⟩)
    · exact .inl (T.ext.hidk b hh).1
    · rcases hlv j hj with rfl | hj'
      · simp only [V', upd_same]; exact .inr ⟨hd, hlive, rfl⟩
      · obtain ⟨h1, h2⟩ := hkeep j (hup j hj')
        rw [(hsame j (hup j hj')).2]
        exact .inr ⟨j, by rw [h1]; exact hj', h2⟩
  have hsub : Sub V.bl V1 V' := ⟨rfl, fun j hn => by
    obtain ⟨h1, h2⟩ := hkeep j hn
    obtain ⟨h3, h4⟩ := hsame j hn
    exact ⟨by rw [h3]; exact hn, by rw [h3, h1], by rw [h4, h2]⟩, hown1⟩
  obtain ⟨m1, m2⟩ := mapM_get hm
  have hrow : ∀ (i j : Nat) (c : Cell), rc rows' i j = some c → ∃ c0, rc rows i j = some c0 ∧ frz0 c0 = some c := by
    intro i j c hc
    obtain ⟨r', h1, h2⟩ := rc_some hc
    have hi : i < rows.length := by rw [← m1]; exact (List.getElem?_eq_some_iff.1 h1).1
    obtain ⟨y, hy, hy2⟩ := m2 i _ (List.getElem?_eq_getElem hi)
    rw [h1] at hy2; injection hy2 with hy2; subst hy2
    obtain ⟨k1, k2⟩ := mapM_get hy
    have hj : j < rows[i].length := by rw [← k1]; exact (List.getElem?_eq_some_iff.1 h2).1
    obtain ⟨z, hz, hz2⟩ := k2 j _ (List.getElem?_eq_getElem hj)
    rw [h2] at hz2; injection hz2 with hz2; subst hz2
    exact ⟨_, by unfold rc; rw [List.getElem?_eq_getElem hi]; exact List.getElem?_eq_getElem hj, hz⟩
  have hHR : HR V' := by
    refine ⟨fun j => ?_, fun j j' hj hj' he => ?_, fun b hb => ⟨Nat.lt_of_lt_of_le (S.hr.hid b hb).1 T.ext.size, fun j hj e => ?_⟩⟩
    · by_cases hjn : j = H.nx
      · subst hjn
        simp only [V', upd_same]
        obtain ⟨w0, C, e, w1, w2, w3⟩ := S1.hr.at hbV1
        refine ⟨fun r hr => ?_, C, e, w1, by rw [m1]; exact w2, fun i j c hc => ?_⟩
        · obtain ⟨i, hi⟩ := List.getElem?_of_mem hr
          have hlt : i < rows.length := by rw [← m1]; exact (List.getElem?_eq_some_iff.1 hi).1
          obtain ⟨y, hy, hy2⟩ := m2 i _ (List.getElem?_eq_getElem hlt)
          rw [hi] at hy2; injection hy2 with hy2; subst hy2
          rw [(mapM_get hy).1]
          exact w0 _ (List.getElem_mem _)
        · obtain ⟨c0, h1, h2⟩ := hrow i j c hc
          exact .ro ((frz0_sound (w3 i j c0 h1) h2).mono (fun b _ _ _ _ hn => ⟨rfl, fun ho => hn (hown1 b ho)⟩))
      · by_cases hn : V.bl j = .none
        · have : V'.bl j = .none := by simp only [V', upd_ne _ _ hjn]; exact hn
          rw [this]; trivial
        · obtain ⟨h1, h2⟩ := hkeep j hn
          obtain ⟨h3, h4⟩ := hsame j hn
          rw [h3, h4]
          have := S1.hr.holds j
          rw [h1, h2] at this
          exact this.sub hsub (S.hr.holds j).inSc
    · rcases hlv j hj with rfl | h1 <;> rcases hlv j' hj' with rfl | h2
      · rfl
      · rw [(hsame j' (hup _ h2)).2] at he
        simp only [V', upd_same] at he
        exact absurd he.symm (hmu j' h2)
      · rw [(hsame j (hup _ h1)).2] at he
        simp only [V', upd_same] at he
        exact absurd he (hmu j h1)
      · rw [(hsame j (hup _ h1)).2, (hsame j' (hup _ h2)).2] at he
        exact S.hr.inj _ _ h1 h2 he
    · rcases hlv j hj with rfl | h1
      · simp only [V', upd_same] at e
        exact hnot (.inl (e ▸ hb))
      · rw [(hsame j (hup _ h1)).2] at e
        exact (S.hr.hid b hb).2 j h1 e
  have hExt : Ext V V' := by
    refine ⟨⟨T.ext.size, fun b hb ho => ⟨(T.ext.keep b hb ho).1, ?_⟩, fun j => ?_⟩, T.ext.io, fun b hb => ⟨hb, (T.ext.hidk b hb).2⟩⟩
    · rintro (hh | ⟨j, hj, e⟩)
      · exact ho (.inl hh)
      · rcases hlv j hj with rfl | h1
        · simp only [V', upd_same] at e; omega
        · rw [(hsame j (hup _ h1)).2] at e
          exact ho (.inr ⟨j, h1, e⟩)
    · by_cases hjn : j = H.nx
      · subst hjn; unfold Turn; rw [S.bl, S.nx _ (Nat.le_refl _)]; trivial
      · exact (hTb.ext.turn j).congr (upd_ne _ _ hjn) (upd_ne _ _ hjn) rfl
  refine ⟨V', rfl, ⟨hExt, Nat.min_le_left _ _, Nat.le_max_left _ _, fun j _ hn => hsame j hn⟩, ⟨by simp only [V', AH.app, S.bl], fun j hj => ?_, hHR⟩, ?_⟩
  · have hj' : max H.nx (H.nx + 1) ≤ j := hj
    simp only [AH.app]
    rw [upd_ne _ _ (by omega)]
    exact S.nx j (by omega)
  · cases hv with
    | one hc =>
      cases hc with
      | ro hc => cases hc
      | sl g1 g2 g3 =>
        obtain ⟨g4, g5⟩ := g3 _ _ hbV1
        obtain ⟨g6, cap', cells, e, fr, g7, g8, g9, g10⟩ := g5 hl
        refine .one (.sl (by simp only [V', upd_same]; simp) g2 (fun sz'' rows'' hb'' => ?_))
        simp only [V', upd_same] at hb''
        injection hb'' with q1 q2
        subst q1 q2
        refine ⟨by omega, fun _ => ⟨g6, cap', cells, e, fr, by simp only [V', upd_same]; exact g7, g8, g9, by simp only [V', upd_same]; exact g10⟩⟩

theorem finish_sound {V V1 : View} {H H1 : AH} {keep : Bool} {r0 r : AV} {e : Eff} {v : Value} (S : SitH V H) (S1 : SitH V1 H1) (T : Step V ⟨H.nx, H.bl, H.nx⟩ V1 H1) (hv : VR V1 r0 v) (h : finish keep H H1 r0 = (r, e)) :
    ∃ V' : View, V'.w = V1.w ∧ Step V H V' (e.app H) ∧ SitH V' (e.app H) ∧ VR V' r v := by
  have full : ∃ V' : View, V'.w = V1.w ∧ Step V H V' ⟨H1.nx, H1.bl, min H.lo H1.lo⟩ ∧ SitH V' ⟨H1.nx, H1.bl, min H.lo H1.lo⟩ ∧ VR V' r0 v :=
    ⟨V1, rfl, ⟨T.ext, Nat.min_le_left _ _, T.nx, fun j hj hn => T.keep j (Nat.lt_of_lt_of_le hj (Nat.min_le_right _ _)) hn⟩, ⟨S1.bl, S1.nx, S1.hr⟩, hv⟩
  unfold finish at h
  split at h
  · injection h with h1 h2
    subst h1 h2
    exact full
  · rename_i hlo
    have hlo : H.nx ≤ H1.lo := Nat.le_of_not_lt hlo
    split at h
    · rename_i n b hk
      injection h with h1 h2
      subst h1 h2
      split at hk
      · exact made_sound S S1 T hlo hv hk
      · cases hk
    · split at h
      · rename_i r' hf
        injection h with h1 h2
        subst h1 h2
        obtain ⟨h3, h4, h5, h6⟩ := sit_back S S1 T hlo
        rw [← S1.bl] at hf
        exact ⟨⟨V1.w, V.mu, V.bl, V.hid⟩, rfl, h4, h5, frzR_sound S1.hr h3 h6 hv hf⟩
      · injection h with h1 h2
        subst h1 h2
        exact full

end Go.AM

namespace Go.AM

def AX.exit : AX → Exit
  | .normal => .normal
  | .jump .ret => .ret
  | .jump (.exit id) => .exit id
  | .jump (.goto l) => .goto l

def XPost (V : View) (H : AH) (x : AX) (env' : Env) (H' : AH) (ro : Option Nat) (base N : Nat) : Exit → Act → World → Prop := fun e a' w' =>
  e = x.exit ∧ ∃ V' : View, V'.w = w' ∧ Step V H V' H' ∧ Sit V' H' env' ro base a' ∧ a'.tmps.size = N

def ExecOk (P : Program) (ex : Code → Env → AH → Option (AX × Env × AH)) : Prop := ∀ (F : Fence), Fine F → ∀ (n : Nat) (c : Code) (env : Env) (H : AH) (x : AX) (env' : Env) (H' : AH), ex c env H = some (x, env', H') →
  ∀ (V : View) (a : Act) (base : Nat), Sit V H env F.round base a → codeOk a.tmps.size c = true → base ≤ V.w.heap.size → c.wpIn F n P (XPost V H x env' H' F.round base a.tmps.size) a V.w

theorem dstOk_mono {N M : Nat} (h : N ≤ M) {o : Oper} (ho : dstOk N o = true) : dstOk M o = true := by
  unfold dstOk at ho ⊢
  cases hd : o.dst with
  | none => rfl
  | some d => rw [hd] at ho; simp only [decide_eq_true_eq] at ho ⊢; exact Nat.lt_of_lt_of_le ho h
theorem codeOk_mono {N M : Nat} (h : N ≤ M) {c : Code} (hc : codeOk N c = true) : codeOk M c = true := by
  induction c with
  | region id ops draw =>
    simp only [codeOk, Bool.and_eq_true, List.all_eq_true] at hc ⊢
    exact ⟨fun o ho => dstOk_mono h (hc.1 o ho), hc.2⟩
  | seq a b iha ihb => simp only [codeOk, Bool.and_eq_true] at hc ⊢; exact ⟨iha hc.1, ihb hc.2⟩
  | cond x a b iha ihb => simp only [codeOk, Bool.and_eq_true] at hc ⊢; exact ⟨iha hc.1, ihb hc.2⟩
  | block id b ih => simp only [codeOk] at hc ⊢; exact ih hc
  | loop b ih => simp only [codeOk] at hc ⊢; exact ih hc
  | scope b ih => simp only [codeOk] at hc ⊢; exact ih hc
  | rangeFunc g ps as bd iha ihb =>
    simp only [codeOk, Bool.and_eq_true, List.all_eq_true, decide_eq_true_eq] at hc ⊢
    exact ⟨⟨fun t ht => Nat.lt_of_lt_of_le (hc.1.1 t ht) h, iha hc.1.2⟩, ihb hc.2⟩
  | _ => rfl

theorem enter_er {V : View} {args : List AV} {vals : Array Value} (h : ASR V args vals) (m : Nat) : ER V (fun t => args.getD t .und) (vals ++ Array.replicate m undef) := by
  intro t
  show VR V (args.getD t .und) _
  by_cases ht : t < args.length
  · have e1 : args.getD t .und = args[t] := by simp [List.getD, ht]
    have hs : t < vals.size := by have := h.len; omega
    have e2 : (vals ++ Array.replicate m undef).getD t undef = vals.getD t undef := by
      simp only [Array.getD_eq_getD_getElem?]
      rw [Array.getElem?_append_left hs]
    rw [e1, e2]
    exact h.get t _ (List.getElem?_eq_getElem ht)
  · have e1 : args.getD t .und = .und := by simp [List.getD, ht]
    have hs : vals.size ≤ t := by have := h.len; omega
    have e2 : (vals ++ Array.replicate m undef).getD t undef = undef := by
      simp only [Array.getD_eq_getD_getElem?]
      rw [Array.getElem?_append_right hs, Array.getElem?_replicate]
      split <;> rfl
    rw [e1, e2]
    exact .und

theorem acall_sound {P : Program} (hp : progOk P = true) {ex : Code → Env → AH → Option (AX × Env × AH)} (hx : ExecOk P ex) {F : Fence} (hF : Fine F) {n : Nat} {f : FuncId} {fn : Func} {c : Code} {args : List AV} {H H1 : AH} {x : AX} {env' : Env} {keep : Bool} {xs : List AV} {r : AV} {e : Eff}
    (hf : P.funcs[f]? = some fn) (hb : fn.body = some c) (hex : ex c (fun t => args.getD t .und) ⟨H.nx, H.bl, H.nx⟩ = some (x, env', H1)) (hxr : x = .normal ∨ x = .jump .ret)
    (hres : resultsA P fn env' H1.bl = some xs) (hfin : finish keep H H1 (single xs) = (r, e)) {V : View} {vals : Array Value} (S : SitH V H) (A : ASR V args vals) :
    CallsIn F n P f vals V.w (CallPost V H r e) := by
  have hcok : codeOk (vals ++ Array.replicate (fn.ntmps - vals.size) undef).size c = true := by
    have h1 : codeOk fn.ntmps c = true := by
      unfold progOk at hp
      have := all_get hp fn (by
        have := Array.getElem?_eq_some_iff.1 hf
        obtain ⟨h1, h2⟩ := this
        rw [← h2]; simp)
      rw [hb] at this
      exact this
    refine codeOk_mono ?_ h1
    simp; omega
  have S0 : Sit V ⟨H.nx, H.bl, H.nx⟩ (fun t => args.getD t .und) F.plain.round V.w.heap.size { tmps := vals ++ Array.replicate (fn.ntmps - vals.size) undef, defers := [] } :=
    ⟨⟨S.bl, S.nx, S.hr⟩, enter_er A _, DR.nil _ _, fun l hl => by cases hl⟩
  have hwp := hx F.plain hF.plain n c _ _ _ _ _ hex V _ _ S0 hcok (Nat.le_refl _)
  have : CallsIn F.plain n P f vals V.w (CallPost V H r e) := by
    refine callsIn_of_wp_marks hf hb (hF.fn f) (wpIn_mono hwp (fun ext a' w' hq => ?_)) rfl
    obtain ⟨he, V1, rfl, T, S1, hsz⟩ := hq
    have goal : LeavesInM F.plain n P fn a'.tmps (CallPost V H r e) a'.defers .returning V1.w := by
      obtain ⟨rs, hds, hnd, hr⟩ := S1.dr
      rw [hds]
      refine marks_sound rs V1 S1.hr hnd hr (fun V2 E2 H2 hm hbl hh hs hi hk => ?_)
      have hres2 : resultsA P fn env' V2.bl = some xs := by rw [hbl, S1.bl]; exact hres
      obtain ⟨v, hrun, hv⟩ := results_sound H2 (S1.er.mono0 E2) hres2
      refine ⟨v, hrun, ?_⟩
      have hown : ∀ b, own V2 b ↔ own V1 b := by intro b; unfold own; rw [hm, hbl, hh]
      have T2 : Step V ⟨H.nx, H.bl, H.nx⟩ V2 H1 := by
        refine ⟨⟨⟨by rw [← hs]; exact T.ext.size, fun b hb ho => ?_, fun h => (T.ext.turn h).trans (E2.turn h)⟩, T.ext.io.trans hi, fun b hb => ?_⟩, T.lo, T.nx, fun h hl hn => ?_⟩
        · obtain ⟨h1, h2⟩ := T.ext.keep b hb ho
          exact ⟨(hk b (.inl hb)).trans h1, fun h3 => h2 ((hown b).1 h3)⟩
        · obtain ⟨h1, h2⟩ := T.ext.hidk b hb
          exact ⟨by rw [hh]; exact h1, (hk b (.inr (.inl h1))).trans h2⟩
        · obtain ⟨h1, h2⟩ := T.keep h hl hn
          exact ⟨by rw [hbl]; exact h1, by rw [hm]; exact h2⟩
      exact finish_sound S ⟨hbl.trans S1.bl, S1.nx, H2⟩ T2 hv hfin
    rcases hxr with rfl | rfl
    · subst he; exact goal
    · subst he; exact goal
  exact this

theorem run_callFunc {P : Program} {f : FuncId} {fn : Func} {c : Code} (hf : P.funcs[f]? = some fn) (hb : fn.body = some c) (hn : (fn.name == "runtime.NumGoroutine") = false) (args : Array Value) (w : World) :
    (callFunc f args).run P w = .ok (.enter f args) w := by
  unfold callFunc
  have hn' : ¬ fn.name = "runtime.NumGoroutine" := by simpa using hn
  simp [Sem.run_bind, program, Sem.run, hf, hn', hb, Result.andThen, Sem.run_pure]

/-- What is asked of calls of functions. -/
def ACallOk (P : Program) (ac : FuncId → List AV → AH → Option (AV × Eff)) : Prop := ∀ (F : Fence), Fine F → ∀ (n : Nat) (f : FuncId) (args : List AV) (H : AH) (r : AV) (e : Eff), ac f args H = some (r, e) →
  ∀ (V : View) (vals : Array Value), SitH V H → ASR V args vals → (∀ w, (callFunc f vals).run P w = .ok (.enter f vals) w) ∧ CallsIn F n P f vals V.w (CallPost V H r e)

theorem cells_asr {V : View} {p : List Cell} {p' : Array Value} (hl : p.length = p'.size) (h : ∀ (i : Nat) c, p[i]? = some c → CR V c (p'.getD i undef)) : ASR V (p.map .one) p' := by
  refine ⟨by simpa using hl, fun i x hx => ?_⟩
  rw [List.getElem?_map] at hx
  obtain ⟨y, hy, rfl⟩ := Option.map_eq_some_iff.1 hx
  exact .one (h i y hy)
theorem ASR.append {V : View} {xs ys : List AV} {us vs : Array Value} (h1 : ASR V xs us) (h2 : ASR V ys vs) : ASR V (xs ++ ys) (us ++ vs) := by
  refine ⟨by simp [h1.len, h2.len], fun i x hx => ?_⟩
  have hl := h1.len
  by_cases hi : i < xs.length
  · rw [List.getElem?_append_left hi] at hx
    have : (us ++ vs).getD i undef = us.getD i undef := by
      simp only [Array.getD_eq_getD_getElem?]; rw [Array.getElem?_append_left (by omega)]
    rw [this]; exact h1.get i x hx
  · rw [List.getElem?_append_right (by omega)] at hx
    have : (us ++ vs).getD i undef = vs.getD (i - xs.length) undef := by
      simp only [Array.getD_eq_getD_getElem?]; rw [Array.getElem?_append_right (by omega), hl]
    rw [this]; exact h2.get _ x hx

theorem setParams_er {V : View} : ∀ {ps : List Nat} {args : List AV} {vals : List Value} {env : Env} {ts : Array Value}, ER V env ts → ps.length = args.length → args.length = vals.length → (∀ (i : Nat) x, args[i]? = some x → VR V x (vals.getD i undef)) → (∀ t ∈ ps, t < ts.size) →
    ER V (setParams env ps args) ((ps.zip vals).foldl (fun tmps (t, a) => tmps.setIfInBounds t a) ts) ∧ ((ps.zip vals).foldl (fun tmps (t, a) => tmps.setIfInBounds t a) ts).size = ts.size := by
  intro ps
  induction ps with
  | nil => intro args vals env ts R _ _ _ _; exact ⟨by unfold setParams; exact R, rfl⟩
  | cons t ps ih =>
    intro args vals env ts R h1 h2 h3 h4
    cases args with
    | nil => simp at h1
    | cons x args =>
      cases vals with
      | nil => simp at h2
      | cons v vals =>
        have hput : ER V (putE env (some t) x) ((⟨ts, []⟩ : Act).put (some t) v).tmps := ER.put (a := ⟨ts, []⟩) R (by simpa using h3 0 x rfl) (fun d hd => by injection hd with hd; subst hd; exact h4 t (by simp))
        have := ih (args := args) (vals := vals) (env := upd env t x) (ts := ts.setIfInBounds t v) hput (by simpa using h1) (by simpa using h2) (fun i y hy => by simpa using h3 (i + 1) y (by simpa using hy)) (fun u hu => by simpa using h4 u (by simp [hu]))
        simp only [setParams, List.zip_cons_cons, List.foldl_cons]
        exact ⟨this.1, by rw [this.2]; simp⟩

end Go.AM
