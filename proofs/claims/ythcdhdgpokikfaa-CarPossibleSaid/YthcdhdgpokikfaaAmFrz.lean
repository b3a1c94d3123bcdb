/- Situations; what is inSc; what a call hands back. -/
import Derived.Test.YthcdhdgpokikfaaAmOps8
namespace Go.AM

/-- The blocks of the rounds' deferred calls. -/
def DR (V : View) (base : Nat) (ds : List Deferred) : Prop :=
  ∃ rs : List Nat, ds = rs.map (fun r => { target := .collected r, args := #[] }) ∧ rs.Nodup ∧ ∀ r ∈ rs, (V.w.heap[r]? = some (.deferred (some [])) ∧ ¬ own V r) ∧ base ≤ r
theorem DR.mono {V V' : View} (E : Ext V V') {base : Nat} {ds : List Deferred} (h : DR V base ds) : DR V' base ds := by
  obtain ⟨rs, h1, h2, h3⟩ := h
  refine ⟨rs, h1, h2, fun r hr => ?_⟩
  obtain ⟨⟨h4, h5⟩, h8⟩ := h3 r hr
  obtain ⟨h6, h7⟩ := E.keep r (Array.getElem?_eq_some_iff.1 h4).1 h5
  exact ⟨⟨h6.trans h4, h7⟩, h8⟩
theorem DR.nil (V : View) (base : Nat) : DR V base [] := ⟨[], rfl, List.nodup_nil, fun r hr => by cases hr⟩

structure SitH (V : View) (H : AH) : Prop where
  bl : V.bl = H.bl
  nx : ∀ h, H.nx ≤ h → H.bl h = .none
  hr : HR V
/-- The loop in whose round the code runs. -/
def RdR (V : View) (ro : Option Nat) : Prop := ∀ l, ro = some l → ∃ h r, V.bl h = .loop r ∧ V.mu h = l
theorem RdR.mono {V V' : View} (E : Ext V V') {ro : Option Nat} (h : RdR V ro) : RdR V' ro := by
  intro l hl
  obtain ⟨h, r, h1, h2⟩ := h l hl
  have t := E.turn h
  unfold Turn at t
  rw [h1] at t
  obtain ⟨r', t1, t2⟩ := t
  exact ⟨h, r', t1, t2.trans h2⟩

structure Sit (V : View) (H : AH) (env : Env) (ro : Option Nat) (base : Nat) (a : Act) : Prop extends SitH V H where
  er : ER V env a.tmps
  dr : DR V base a.defers
  rd : RdR V ro

structure Step (V : View) (H : AH) (V' : View) (H' : AH) : Prop where
  ext : Ext V V'
  lo : H'.lo ≤ H.lo
  nx : H.nx ≤ H'.nx
  keep : ∀ h, h < H'.lo → V.bl h ≠ .none → V'.bl h = V.bl h ∧ V'.mu h = V.mu h
theorem Step.refl (V : View) (H : AH) : Step V H V H := ⟨Ext.refl V, Nat.le_refl _, Nat.le_refl _, fun _ _ _ => ⟨rfl, rfl⟩⟩
theorem Step.trans {V V1 V2 : View} {H H1 H2 : AH} (a : Step V H V1 H1) (b : Step V1 H1 V2 H2) : Step V H V2 H2 := by
  refine ⟨a.ext.trans b.ext, Nat.le_trans b.lo a.lo, Nat.le_trans a.nx b.nx, fun h hl hn => ?_⟩
  obtain ⟨h1, h2⟩ := a.keep h (Nat.lt_of_lt_of_le hl b.lo) hn
  obtain ⟨h3, h4⟩ := b.keep h hl (by rw [h1]; exact hn)
  exact ⟨h3.trans h1, h4.trans h2⟩

/-- One operation's turn of the heap. -/
theorem step_app {V : View} {H : AH} (S : SitH V H) {w' : World} {mu' : Nat → Nat} {d : Option (Nat × Blk)} (hE : Ext V ⟨w', mu', bapp V.bl d, V.hid⟩) (hH : HR ⟨w', mu', bapp V.bl d, V.hid⟩) (hk : ∀ j, (∀ b, d ≠ some (j, b)) → mu' j = V.mu j) :
    Step V H ⟨w', mu', bapp V.bl d, V.hid⟩ (H.app d) ∧ SitH ⟨w', mu', bapp V.bl d, V.hid⟩ (H.app d) := by
  cases d with
  | none =>
    have hm : mu' = V.mu := funext fun j => hk j (fun b h => by cases h)
    subst hm
    exact ⟨⟨hE, Nat.le_refl _, Nat.le_refl _, fun _ _ _ => ⟨rfl, rfl⟩⟩, ⟨S.bl, S.nx, hH⟩⟩
  | some p =>
    obtain ⟨h, b⟩ := p
    refine ⟨⟨hE, Nat.min_le_left _ _, Nat.le_max_left _ _, fun j hj _ => ?_⟩, ⟨?_, fun j hj => ?_, hH⟩⟩
    · have hjh : j ≠ h := by have : j < min H.lo h := hj; omega
      exact ⟨upd_ne _ _ hjh, hk j (fun b' hb' => by injection hb' with hb'; injection hb' with h1 _; exact hjh h1.symm)⟩
    · simp only [bapp, AH.app, S.bl]
    · have hj' : max H.nx (h + 1) ≤ j := hj
      simp only [AH.app]
      rw [upd_ne _ _ (by omega)]
      exact S.nx j (by omega)

/-! ### Scopes -/
inductive Sc (bl : Nat → Blk) : Cell → Prop
  | sc {v} : Sc bl (.sc v)
  | e0 : Sc bl .e0
  | lst {sz rows} : Sc bl (.lst sz rows)
  | sl {h n lo len} : bl h ≠ .none → Sc bl (.sl h n lo len)
  | ep {a sz i off} : Sc bl a → Sc bl (.ep a sz i off)
  | bp {h off} : bl h ≠ .none → Sc bl (.bp h off)
  | fn {f p q} : (∀ (i : Nat) c, p[i]? = some c → Sc bl c) → (∀ (i : Nat) c, q[i]? = some c → Sc bl c) → Sc bl (.fn f p q)
  | mp {h} : bl h ≠ .none → Sc bl (.mp h)
  | yl {h} : bl h ≠ .none → Sc bl (.yl h)
inductive ScV (bl : Nat → Blk) : AV → Prop
  | one {c} : Sc bl c → ScV bl (.one c)
  | agg {cs : List Cell} : (∀ (i : Nat) c, cs[i]? = some c → Sc bl c) → ScV bl (.agg cs)
  | tup {xs : List AV} : (∀ (i : Nat) x, xs[i]? = some x → ScV bl x) → ScV bl (.tup xs)
  | und : ScV bl .und
  | bad : ScV bl .bad

theorem RO.inSc {w : World} {own : Nat → Prop} {c : Cell} {v : Value} (h : RO w own c v) (bl : Nat → Blk) : Sc bl c := by
  cases h with
  | sc _ => exact .sc
  | e0 => exact .e0
  | fn => exact .fn (fun i c h => by simp at h) (fun i c h => by simp at h)
  | lst => exact .lst
  | nil => exact .lst
theorem CR.inSc {V : View} {c : Cell} {v : Value} (h : CR V c v) : Sc V.bl c := by
  induction h with
  | ro h => exact h.inSc _
  | sl h _ _ => exact .sl h
  | ep _ _ ih => exact .ep ih
  | bp h _ => exact .bp h
  | fn _ _ _ _ ih1 ih2 => exact .fn ih1 ih2
  | mp h _ => exact .mp h
  | yl h _ => exact .yl h
theorem VR.inSc {V : View} {x : AV} {v : Value} (h : VR V x v) : ScV V.bl x := by
  induction h with
  | one h => exact .one h.inSc
  | agg _ h => exact .agg (fun i c hc => (h i c hc).inSc)
  | tup _ _ ih => exact .tup ih
  | und => exact .und
  | bad => exact .bad

/-- A smaller heap: some blocks are let go. -/
structure Sub (bl0 : Nat → Blk) (V V' : View) : Prop where
  w : V'.w = V.w
  same : ∀ h, bl0 h ≠ .none → V'.bl h ≠ .none ∧ V'.bl h = V.bl h ∧ V'.mu h = V.mu h
  own : ∀ b, own V' b → own V b
theorem RO.sub {V V' : View} {bl0 : Nat → Blk} (S : Sub bl0 V V') {c : Cell} {v : Value} (h : RO V.w (own V) c v) : RO V'.w (own V') c v :=
  h.mono (fun b _ _ _ _ hb => ⟨by rw [S.w], fun ho => hb (S.own _ ho)⟩)
theorem CR.sub {V V' : View} {bl0 : Nat → Blk} (S : Sub bl0 V V') {c : Cell} {v : Value} (h : CR V c v) (hs : Sc bl0 c) : CR V' c v := by
  induction h with
  | ro h => exact .ro (h.sub S)
  | sl h1 h2 h3 =>
    cases hs with
    | sl hn =>
      obtain ⟨hn, h4, h5⟩ := S.same _ hn
      refine .sl hn h2 (fun sz rows hb => ?_)
      obtain ⟨h6, h7⟩ := h3 sz rows (h4 ▸ hb)
      refine ⟨h6, fun hl => ?_⟩
      have := h7 hl
      unfold SlOk at this ⊢
      rw [S.w, h5]
      exact this
  | ep _ h2 ih => cases hs with | ep hs => exact .ep (ih hs) h2
  | bp h1 h2 =>
    cases hs with
    | bp hn =>
      obtain ⟨hn, h4, h5⟩ := S.same _ hn
      exact .bp hn (fun cs hb => by rw [h5]; exact h2 cs (h4 ▸ hb))
  | fn h1 h2 _ _ ih1 ih2 => cases hs with | fn g1 g2 => exact .fn h1 h2 (fun i c hc => ih1 i c hc (g1 i c hc)) (fun i c hc => ih2 i c hc (g2 i c hc))
  | mp h1 h2 =>
    cases hs with
    | mp hn =>
      obtain ⟨hn, h4, h5⟩ := S.same _ hn
      exact .mp hn (fun cs hb => by rw [h5]; exact h2 cs (h4 ▸ hb))
  | yl h1 h2 =>
    cases hs with
    | yl hn =>
      obtain ⟨hn, h4, h5⟩ := S.same _ hn
      exact .yl hn (fun cs hb => by rw [h5]; exact h2 cs (h4 ▸ hb))
theorem VR.sub {V V' : View} {bl0 : Nat → Blk} (S : Sub bl0 V V') {x : AV} {v : Value} (h : VR V x v) (hs : ScV bl0 x) : VR V' x v := by
  induction h with
  | one h => cases hs with | one hs => exact .one (h.sub S hs)
  | agg h1 h2 => cases hs with | agg hs => exact .agg h1 (fun i c hc => (h2 i c hc).sub S (hs i c hc))
  | tup h1 _ ih => cases hs with | tup hs => exact .tup h1 (fun i x hx => ih i x hx (hs i x hx))
  | und => exact .und
  | bad => exact .bad _

/-- All that a block holds is inSc. -/
def ScB (bl : Nat → Blk) : Blk → Prop
  | .none | .dead => True
  | .box cs => ∀ (i : Nat) c, cs[i]? = some c → Sc bl c
  | .arr _ rows => ∀ i j c, rc rows i j = some c → Sc bl c
  | .map es => ∀ (i : Nat) k x, es[i]? = some (k, x) → ScV bl x
  | .loop r => ∀ t, ScV bl (r.env t)
theorem Holds.inSc {V : View} {b : Nat} {k : Blk} (h : Holds V b k) : ScB V.bl k := by
  cases k with
  | none => exact True.intro
  | dead => exact True.intro
  | box cs => obtain ⟨_, _, _, _, h⟩ := h; exact fun i c hc => (h i c hc).inSc
  | arr sz rows => obtain ⟨_, _, _, _, _, h⟩ := h; exact fun i j c hc => (h i j c hc).inSc
  | map es => obtain ⟨_, _, _, _, h⟩ := h; exact fun i k x hx => let ⟨_, _, _, h⟩ := h i k x hx; h.inSc
  | loop r => obtain ⟨_, _, h⟩ := h; exact fun t => (h.env t).inSc
theorem Holds.sub {V V' : View} {bl0 : Nat → Blk} (S : Sub bl0 V V') {b : Nat} {k : Blk} (h : Holds V b k) (hs : ScB bl0 k) : Holds V' b k := by
  cases k with
  | none => exact True.intro
  | dead => exact True.intro
  | box cs => obtain ⟨C, e, h1, h2, h3⟩ := h; exact ⟨C, e, by rw [S.w]; exact h1, h2, fun i c hc => (h3 i c hc).sub S (hs i c hc)⟩
  | arr sz rows => obtain ⟨h0, C, e, h1, h2, h3⟩ := h; exact ⟨h0, C, e, by rw [S.w]; exact h1, h2, fun i j c hc => (h3 i j c hc).sub S (hs i j c hc)⟩
  | map es =>
    obtain ⟨ents, cl, h1, h2, h3⟩ := h
    exact ⟨ents, cl, by rw [S.w]; exact h1, h2, fun i k x hx => let ⟨m, h4, h5, h6⟩ := h3 i k x hx; ⟨m, h4, h5, h6.sub S (hs i k x hx)⟩⟩
  | loop r =>
    obtain ⟨L, h1, h2⟩ := h
    exact ⟨L, by rw [S.w]; exact h1, ⟨h2.params, h2.assign, h2.body, fun t => (h2.env t).sub S (hs t), h2.ok, h2.ready, h2.done⟩⟩
theorem HR.sub {V V' : View} (S : Sub V'.bl V V') (H : HR V) (hs : ∀ h, V'.bl h ≠ .none → ScB V'.bl (V'.bl h)) (hh : ∀ b, V'.hid b → b < V'.w.heap.size ∧ ∀ h, (V'.bl h).live → V'.mu h ≠ b) : HR V' := by
  refine ⟨fun h => ?_, fun h h' hl hl' hm => ?_, hh⟩
  · by_cases hn : V'.bl h = .none
    · rw [hn]; exact True.intro
    · obtain ⟨_, h1, h2⟩ := S.same h hn
      have := H.holds h
      rw [← h1, ← h2] at this
      exact this.sub S (hs h hn)
  · have up : ∀ j, (V'.bl j).live → V'.bl j ≠ .none := by intro j hj e; rw [e] at hj; exact hj
    obtain ⟨_, h1, h2⟩ := S.same h (up _ hl)
    obtain ⟨_, h3, h4⟩ := S.same h' (up _ hl')
    rw [h1] at hl
    rw [h3] at hl'
    rw [h2, h4] at hm
    exact H.inj _ _ hl hl' hm

/-- The callee's own blocks are let go: the caller's heap is as it was. -/
theorem sit_back {V V1 : View} {H H1 : AH} (S : SitH V H) (S1 : SitH V1 H1) (T : Step V ⟨H.nx, H.bl, H.nx⟩ V1 H1) (hlo : H.nx ≤ H1.lo) :
    let V' : View := ⟨V1.w, V.mu, V.bl, V.hid⟩
    Sub V.bl V1 V' ∧ Step V H V' H ∧ SitH V' H ∧ (∀ b, own V' b → V1.hid b ∨ ∃ h, h < H.nx ∧ (V1.bl h).live ∧ V1.mu h = b) := by
  intro V'
  have hlt : ∀ h, V.bl h ≠ .none → h < H.nx := by
    intro h hn
    rcases Nat.lt_or_ge h H.nx with h1 | h1
    · exact h1
    · exact absurd (by rw [S.bl]; exact S.nx h h1) hn
  have hown : ∀ b, own V' b → V1.hid b ∨ ∃ h, h < H.nx ∧ (V1.bl h).live ∧ V1.mu h = b := by
    rintro b (hh | ⟨h, hl, hm⟩)
    · exact .inl (T.ext.hidk b hh).1
    have hn : V.bl h ≠ .none := by intro e; simp only [V', e] at hl; exact hl
    obtain ⟨h1, h2⟩ := T.keep h (Nat.lt_of_lt_of_le (hlt h hn) hlo) hn
    exact .inr ⟨h, hlt h hn, by rw [h1]; exact hl, by rw [h2]; exact hm⟩
  have hsub : Sub V.bl V1 V' := ⟨rfl, fun h hn => by
    obtain ⟨h1, h2⟩ := T.keep h (Nat.lt_of_lt_of_le (hlt h hn) hlo) hn
    exact ⟨hn, h1.symm, h2.symm⟩, fun b hb => by
    rcases hown b hb with h | ⟨h, _, h1, h2⟩
    · exact .inl h
    · exact .inr ⟨h, h1, h2⟩⟩
  have hH : HR V' := HR.sub hsub S1.hr (fun h hn => (S.hr.holds h).inSc) (fun b hb => ⟨Nat.lt_of_lt_of_le (S.hr.hid b hb).1 T.ext.size, (S.hr.hid b hb).2⟩)
  refine ⟨hsub, ⟨⟨⟨T.ext.size, fun b hb ho => ⟨(T.ext.keep b hb ho).1, fun ho' => ho ?_⟩, fun h => ?_⟩, T.ext.io, fun b hb => ⟨hb, (T.ext.hidk b hb).2⟩⟩, Nat.le_refl _, Nat.le_refl _, fun _ _ _ => ⟨rfl, rfl⟩⟩, ⟨S.bl, S.nx, hH⟩, hown⟩
  · exact ho'
  · have t := T.ext.turn h
    unfold Turn at t ⊢
    cases hb : V.bl h with
    | none => trivial
    | dead => rfl
    | box cs => exact .inr ⟨cs, rfl, rfl, rfl⟩
    | map es => exact .inr ⟨es, rfl, rfl⟩
    | loop r => exact ⟨r, rfl, rfl⟩
    | arr sz rows =>
      rw [hb] at t
      have hn : V.bl h ≠ .none := by rw [hb]; simp
      obtain ⟨h1, h2⟩ := T.keep h (Nat.lt_of_lt_of_le (hlt h hn) hlo) hn
      refine .inr ⟨rows, rfl, .inl ⟨rfl, rfl, ?_⟩⟩
      rcases t with t | ⟨rows', t, t2⟩
      · rw [h1, hb] at t; cases t
      · rw [h1, hb] at t
        injection t with _ t
        subst t
        rcases t2 with ⟨_, _, t3⟩ | t3
        · exact t3
        · omega

/-- What is let go reads as it did. -/
theorem frz_sound {V1 V' : View} {nx : Nat} (hr : HR V1) {bl0 : Nat → Blk} (hsub : Sub bl0 V1 V') (hown : ∀ b, own V' b → V1.hid b ∨ ∃ h, h < nx ∧ (V1.bl h).live ∧ V1.mu h = b) : ∀ (n : Nat) (c c' : Cell) (v : Value), CR V1 c v → frzC V1.bl nx n c = some c' → RO V'.w (own V') c' v := by
  intro n
  induction n with
  | zero => intro c c' v _ h; simp [frzC] at h
  | succ n ih =>
    intro c c' v hc h
    unfold frzC at h
    split at h
    · injection h with h; subst h
      obtain ⟨rfl, hp⟩ := hc.sc_inv
      exact .sc hp
    · injection h with h; subst h
      obtain ⟨A, rfl⟩ := hc.e0_inv
      exact .e0
    · injection h with h; subst h
      cases hc with
      | ro hc => exact hc.sub hsub
    · injection h with h; subst h
      cases hc with
      | ro hc => exact hc.sub hsub
      | @fn _ _ _ p' q' h1 h2 h3 h4 =>
        have e1 : p' = #[] := Array.eq_empty_of_size_eq_zero (by simpa using h1.symm)
        have e2 : q' = #[] := Array.eq_empty_of_size_eq_zero (by simpa using h2.symm)
        subst e1 e2
        exact .fn
    · rename_i h0 n' lo len
      split at h
      · rename_i hbase
        split at h
        · rename_i sz rows hb
          split at h
          · rename_i hlen
            obtain ⟨rows', hm, rfl⟩ := Option.map_eq_some_iff.1 h
            cases hc with
            | ro hc => cases hc
            | sl g1 g2 g3 =>
              obtain ⟨g4, g5⟩ := g3 _ _ hb
              obtain ⟨g6, cap', cells, e, fr, g7, g8, g9, g10⟩ := g5 hlen
              injection g10 with g11 _ g13
              injection g11 with g11
              subst g11 g13
              obtain ⟨hwid, C, e', hh, hsz, hcell⟩ := hr.at hb
              obtain ⟨m1, m2⟩ := mapM_get hm
              have hlr : rows'.length = len := by rw [m1]; simp; omega
              have hrow : ∀ (i : Nat) r', rows'[i]? = some r' → ∃ r, rows[lo + i]? = some r ∧ List.mapM (frzC V1.bl nx n) r = some r' := by
                intro i r' hr'
                have hi : i < ((rows.drop lo).take len).length := by rw [← m1]; exact (List.getElem?_eq_some_iff.1 hr').1
                obtain ⟨y, hy1, hy2⟩ := m2 i _ (List.getElem?_eq_getElem hi)
                rw [hr'] at hy2
                injection hy2 with hy2
                subst hy2
                refine ⟨_, ?_, hy1⟩
                have : ((rows.drop lo).take len)[i]? = rows[lo + i]? := by
                  rw [List.getElem?_take, if_pos (by omega), List.getElem?_drop]
                rw [← this]
                exact List.getElem?_eq_getElem hi
              have := @RO.lst V'.w (own V') sz rows' ⟨V1.mu h0, lo * sz, none⟩ _ (fun i j => C.getD ((lo + i) * sz + j) undef) (by rw [hlr]; exact g2) rfl (fun r' hr' => ?_) (fun i j c hc => ?_) (fun i j c hc => ?_)
              · rw [hlr] at this; exact this
              · obtain ⟨i, hi⟩ := List.getElem?_of_mem hr'
                obtain ⟨r, h1, h2⟩ := hrow i r' hi
                rw [(mapM_get h2).1]
                exact hwid r (List.mem_of_getElem? h1)
              · obtain ⟨r', h1, h2⟩ := rc_some hc
                obtain ⟨r, h3, h4⟩ := hrow i r' h1
                obtain ⟨k1, k2⟩ := mapM_get h4
                have hj : j < r.length := by rw [← k1]; exact (List.getElem?_eq_some_iff.1 h2).1
                have hrl := hwid r (List.mem_of_getElem? h3)
                have hi := (List.getElem?_eq_some_iff.1 h3).1
                have hlt : (lo + i) * sz + j < C.size := Nat.lt_of_lt_of_le (mul_lt_of hi (by omega)) hsz
                refine ⟨fun ho => ?_, ?_⟩
                · rcases hown _ ho with hh | ⟨h', hl', hlive, hmu⟩
                  · exact (hr.hid _ hh).2 h0 (by rw [hb]; trivial) rfl
                  have := hr.inj h' h0 hlive (by rw [hb]; trivial) hmu
                  omega
                · have he : lo * sz + (i * sz + j) = (lo + i) * sz + j := by rw [Nat.add_mul]; omega
                  simp only [he]
                  rw [hsub.w]
                  exact cell_block hh hlt
              · obtain ⟨r', h1, h2⟩ := rc_some hc
                obtain ⟨r, h3, h4⟩ := hrow i r' h1
                obtain ⟨k1, k2⟩ := mapM_get h4
                have hj : j < r.length := by rw [← k1]; exact (List.getElem?_eq_some_iff.1 h2).1
                obtain ⟨y, y1, y2⟩ := k2 j _ (List.getElem?_eq_getElem hj)
                rw [h2] at y2
                injection y2 with y2
                subst y2
                exact ih _ _ _ (hcell (lo + i) j _ (by unfold rc; rw [h3]; exact List.getElem?_eq_getElem hj)) y1
          · cases h
        · cases h
      · cases h
    · cases h

end Go.AM
