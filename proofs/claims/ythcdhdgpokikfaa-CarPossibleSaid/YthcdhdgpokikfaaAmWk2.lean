/- What a function's own blocks hold; slices as lists; the end of a function. -/
import Derived.Test.YthcdhdgpokikfaaAmWk1
namespace Go.AM

abbrev cint (n : Int) : Cell := .sc (.int .i64 n)
abbrev cbool (b : Bool) : Cell := .sc (.bool b)
abbrev vint (n : Int) : AV := .one (.sc (.int .i64 n))
abbrev vbool (b : Bool) : AV := .one (.sc (.bool b))
abbrev cnil : Cell := .sc (.slice none 0 0)

/-- The heap H, seen from a function that began at H0: its own blocks that count, the latest first. -/
structure Hs (H0 H : AH) (l : List (Nat × Blk)) : Prop where
  nx : H0.nx ≤ H.nx
  lo : H0.nx ≤ H.lo
  old : ∀ j, j < H0.nx → H.bl j = H0.bl j
  at_ : ∀ p ∈ l, H.bl p.1 = p.2
  ge : ∀ p ∈ l, H0.nx ≤ p.1 ∧ p.1 < H.nx
  srt : l.Pairwise (fun a b => b.1 < a.1)

/-- One block of a list is another one. -/
inductive Put : List (Nat × Blk) → Nat → Blk → Blk → List (Nat × Blk) → Prop
  | head {l : List (Nat × Blk)} {k : Nat} {b b' : Blk} : Put ((k, b) :: l) k b b' ((k, b') :: l)
  | tail {e : Nat × Blk} {l l' : List (Nat × Blk)} {k : Nat} {b b' : Blk} : Put l k b b' l' → Put (e :: l) k b b' (e :: l')

theorem Put.mem {l l' : List (Nat × Blk)} {k : Nat} {b b' : Blk} (h : Put l k b b' l') : (k, b) ∈ l := by
  induction h with
  | head => exact .head _
  | tail _ ih => exact .tail _ ih
theorem Put.mem' {l l' : List (Nat × Blk)} {k : Nat} {b b' : Blk} (h : Put l k b b' l') (p : Nat × Blk) (hp : p ∈ l') (hs : l.Pairwise (fun a b => b.1 < a.1)) : p = (k, b') ∨ (p ∈ l ∧ p.1 ≠ k) := by
  induction h with
  | head =>
    rename_i l k b b'
    rw [List.pairwise_cons] at hs
    rcases List.mem_cons.1 hp with rfl | hp
    · exact .inl rfl
    · have := hs.1 p hp
      simp only at this
      exact .inr ⟨.tail _ hp, by omega⟩
  | tail hq ih =>
    rename_i e l l' k b b'
    rw [List.pairwise_cons] at hs
    rcases List.mem_cons.1 hp with rfl | hp
    · have := hs.1 _ hq.mem
      simp only at this
      exact .inr ⟨.head _, by omega⟩
    · rcases ih hp hs.2 with h | ⟨h1, h2⟩
      · exact .inl h
      · exact .inr ⟨.tail _ h1, h2⟩
theorem Put.keys {l l' : List (Nat × Blk)} {k : Nat} {b b' : Blk} (h : Put l k b b' l') : l'.map (·.1) = l.map (·.1) := by
  induction h with
  | head => rfl
  | tail _ ih => simp [ih]

theorem Hs.start (H : AH) : Hs H ⟨H.nx, H.bl, H.nx⟩ [] := ⟨Nat.le_refl _, Nat.le_refl _, fun _ _ => rfl, fun _ h => by simp at h, fun _ h => by simp at h, .nil⟩
theorem Hs.new {H0 H : AH} {l : List (Nat × Blk)} (h : Hs H0 H l) (b : Blk) : Hs H0 (H.app (some (H.nx, b))) ((H.nx, b) :: l) := by
  have hnx := h.nx
  refine ⟨?_, ?_, fun j hj => ?_, fun p hp => ?_, fun p hp => ?_, ?_⟩
  · simp only [AH.app]; omega
  · have := h.lo; simp only [AH.app]; omega
  · simp only [AH.app, upd]; rw [if_neg (by omega)]; exact h.old j hj
  · rcases List.mem_cons.1 hp with rfl | hp
    · simp [AH.app, upd]
    · have := h.ge p hp
      simp only [AH.app, upd]; rw [if_neg (by omega)]; exact h.at_ p hp
  · rcases List.mem_cons.1 hp with rfl | hp
    · simp only [AH.app]; omega
    · have := h.ge p hp
      simp only [AH.app]; omega
  · rw [List.pairwise_cons]
    exact ⟨fun p hp => (h.ge p hp).2, h.srt⟩
theorem Hs.put {H0 H : AH} {l l' : List (Nat × Blk)} {k : Nat} {b b' : Blk} (h : Hs H0 H l) (q : Put l k b b' l') : Hs H0 (H.app (some (k, b'))) l' := by
  have hk := h.ge _ q.mem
  simp only at hk
  have hnx := h.nx
  refine ⟨?_, ?_, fun j hj => ?_, fun p hp => ?_, fun p hp => ?_, ?_⟩
  · simp only [AH.app]; omega
  · have := h.lo; simp only [AH.app]; omega
  · simp only [AH.app, upd]; rw [if_neg (by omega)]; exact h.old j hj
  · rcases q.mem' p hp h.srt with rfl | ⟨h1, h2⟩
    · simp [AH.app, upd]
    · simp only [AH.app, upd]; rw [if_neg h2]; exact h.at_ p h1
  · rcases q.mem' p hp h.srt with rfl | ⟨h1, h2⟩
    · simp only [AH.app]; omega
    · have := h.ge p h1
      simp only [AH.app]; omega
  · have e := q.keys
    have h1 : (l.map (·.1)).Pairwise (fun a b => b < a) := List.pairwise_map.2 h.srt
    rw [← e] at h1
    exact List.pairwise_map.1 h1
theorem Hs.sub {H0 H : AH} {l l' : List (Nat × Blk)} (h : Hs H0 H l) (s : l'.Sublist l) : Hs H0 H l' :=
  ⟨h.nx, h.lo, h.old, fun p hp => h.at_ p (s.subset hp), fun p hp => h.ge p (s.subset hp), h.srt.sublist s⟩

/-- A cell is a slice of these rows. -/
structure Rw (H : AH) (sz : Nat) (c : Cell) (r : List (List Cell)) : Prop where
  rows : rowsOf H.bl sz c = some r
  len : lenOf H.bl c = some r.length
structure Sl (H : AH) (sz : Nat) (c : Cell) (rows : List (List Cell)) : Prop extends Rw H sz c rows where
  refs : ∀ h ∈ refsC c, h < H.nx
theorem Rw.lst {H : AH} {sz : Nat} {rows : List (List Cell)} : Rw H sz (.lst sz rows) rows := ⟨by simp [rowsOf], rfl⟩
theorem Rw.nil {H : AH} {sz : Nat} : Rw H sz cnil [] := ⟨rfl, rfl⟩
theorem Rw.e0 {H : AH} {sz : Nat} : Rw H sz .e0 [] := ⟨rfl, rfl⟩
theorem Sl.lst {H : AH} {sz : Nat} {rows : List (List Cell)} : Sl H sz (.lst sz rows) rows := ⟨.lst, fun _ h => by simp [refsC] at h⟩
theorem Sl.nil {H : AH} {sz : Nat} : Sl H sz cnil [] := ⟨.nil, fun _ h => by simp [refsC] at h⟩
theorem Sl.e0 {H : AH} {sz : Nat} : Sl H sz .e0 [] := ⟨.e0, fun _ h => by simp [refsC] at h⟩
theorem rw_frame {H H' : AH} {sz : Nat} {c : Cell} {rows : List (List Cell)} (h : Rw H sz c rows) (e : ∀ k ∈ refsC c, H'.bl k = H.bl k) : Rw H' sz c rows := by
  cases c with
  | sl k n lo len => exact ⟨by have := h.rows; simp only [rowsOf] at this ⊢; rw [e k (by simp [refsC])]; exact this, h.len⟩
  | mp k =>
    have h1 := h.rows
    simp [rowsOf] at h1
  | sc v =>
    have h1 := h.rows
    have h2 := h.len
    unfold rowsOf at h1
    split at h1
    · injection h1 with h1
      subst h1
      simp_all
      exact .nil
    all_goals simp_all
  | lst _ _ => exact ⟨h.rows, h.len⟩
  | e0 => exact ⟨h.rows, h.len⟩
  | _ => have h1 := h.rows; simp [rowsOf] at h1
theorem Sl.up {H0 H : AH} {l : List (Nat × Blk)} {sz : Nat} {c : Cell} {rows : List (List Cell)} (h : Sl H0 sz c rows) (hs : Hs H0 H l) : Sl H sz c rows :=
  ⟨rw_frame h.toRw (fun k hk => hs.old k (h.refs k hk)), fun k hk => Nat.lt_of_lt_of_le (h.refs k hk) hs.nx⟩
theorem Sl.arr {H0 H : AH} {l : List (Nat × Blk)} {sz k n : Nat} {rows : List (List Cell)} (hs : Hs H0 H l) (hm : (k, .arr sz rows) ∈ l) (hn : rows.length = n) : Sl H sz (.sl k n 0 n) rows := by
  have h1 := hs.at_ _ hm
  simp only at h1
  refine ⟨⟨?_, by simp [lenOf, hn]⟩, fun j hj => ?_⟩
  · simp only [rowsOf, h1, hn, and_self, if_true, List.drop_zero]
    rw [← hn, List.take_length]
  · simp only [refsC, List.mem_singleton] at hj
    subst hj
    exact (hs.ge _ hm).2
theorem Rw.fn {H : AH} {sz : Nat} {c : Cell} {r r' : List (List Cell)} (h : Rw H sz c r) (h' : Rw H sz c r') : r = r' := by
  have := h.rows; rw [h'.rows] at this; injection this with this; exact this.symm

/-- A number is a natural number. -/
structure IsN (i : Int) (j : Nat) : Prop where
  eq : i = j
theorem IsN.c {j : Nat} : IsN (j : Int) j := ⟨rfl⟩
theorem IsN.s {j : Nat} : IsN ((j : Int) + 1) (j + 1) := ⟨(Int.natCast_succ j).symm⟩
theorem IsN.p {i : Int} {j : Nat} (h : IsN i j) (hj : 1 ≤ j) : IsN (i - 1) (j - 1) := ⟨by have := h.eq; omega⟩
theorem IsN.z : IsN 0 0 := ⟨rfl⟩
theorem IsN.o : IsN 1 1 := ⟨rfl⟩
theorem IsN.t {i : Int} (h : 0 ≤ i) : IsN i i.toNat := ⟨(Int.toNat_of_nonneg h).symm⟩

/-! The end of a function -/
def Cl (R : AV → Prop) : AV → Eff → Prop := fun r e => e = .clean ∧ R r
theorem Cl.eq {v : AV} : Cl (· = v) v .clean := ⟨rfl, rfl⟩
def Rt (P : Program) (fn : Func) (H0 : AH) (R : AV → Prop) : AX → Env → AH → Prop :=
  fun x e h => (x = .normal ∨ x = .jump .ret) ∧ H0.nx ≤ h.lo ∧ ∃ vs v, resultsA P fn e h.bl = some vs ∧ frzR h.bl H0.nx (single vs) = some v ∧ R v
theorem finish_clean {H h : AH} {r r' : AV} (hlo : H.nx ≤ h.lo) (hf : frzR h.bl H.nx r = some r') : finish false H h r = (r', .clean) := by
  unfold finish
  rw [if_neg (by omega)]
  simp [hf]
theorem Cv_of {P : Program} {f : FuncId} {fn : Func} {c : Code} {args : List AV} {H : AH} {R : AV → Prop} (hf : P.funcs[f]? = some fn) (hb : fn.body = some c) (hn : (fn.name == "runtime.NumGoroutine") = false) (ho : (fn.origin == "slices.Clone") = false)
    (h : ∀ h, Hs H h [] → Ev P c (Rt P fn H R) (fun t => args.getD t .und) h) (hl : args.isEmpty = false := by rfl) : Cv P f args H (Cl R) := by
  refine Cv.of hf hb hn (by simp [shutFn, hl]) ((h _ (Hs.start H)).mono (fun x e h' hq => ?_))
  obtain ⟨h1, h2, vs, v, h3, h4, h5⟩ := hq
  refine ⟨h1, vs, h3, ?_⟩
  rw [ho]
  simp only [finish_clean h2 h4]
  exact ⟨rfl, h5⟩
/-- What a result is, behind the call. -/
def fz (H0 h : AH) (x y : AV) : Prop := frzV h.bl H0.nx x = some y
theorem fz_i {H0 h : AH} {n : Int} : fz H0 h (vint n) (vint n) := rfl
theorem fz_b {H0 h : AH} {n : Bool} : fz H0 h (vbool n) (vbool n) := rfl
theorem fz_l {H0 h : AH} {sz : Nat} {r : List (List Cell)} : fz H0 h (.one (.lst sz r)) (.one (.lst sz r)) := rfl
theorem fz_c {H0 h : AH} {v : Value} : fz H0 h (.one (.sc v)) (.one (.sc v)) := rfl
theorem fz_u {H0 h : AH} : fz H0 h .und .und := rfl
theorem mapM_id {α β : Type} {f : α → Option β} {g : α → β} : ∀ {l : List α}, (∀ x ∈ l, f x = some (g x)) → l.mapM f = some (l.map g)
  | [], _ => rfl
  | x :: l, h => by
    rw [List.mapM_cons, h x (by simp)]
    simp only [Option.bind_eq_bind, Option.bind_some]
    rw [mapM_id (l := l) (fun y hy => h y (by simp [hy]))]
    rfl
/-- A cell that looks the same behind the call. -/
def flat : Cell → Bool
  | .sc _ | .e0 | .lst _ _ => true
  | _ => false
theorem frz_flat {bl : Nat → Blk} {b n : Nat} {c : Cell} (h : flat c = true) : frzC bl b (n + 1) c = some c := by
  cases c <;> simp [flat] at h <;> rfl
theorem fz_s {H0 h : AH} {l : List (Nat × Blk)} {sz k n : Nat} {rows : List (List Cell)} (hs : Hs H0 h l) (hm : (k, .arr sz rows) ∈ l) (hn : rows.length = n) (hf : ∀ r ∈ rows, ∀ c ∈ r, flat c = true) : fz H0 h (.one (.sl k n 0 n)) (.one (.lst sz rows)) := by
  have h1 := hs.at_ _ hm
  have h2 := hs.ge _ hm
  simp only at h1 h2
  have : frzC h.bl H0.nx 6 (.sl k n 0 n) = some (.lst sz rows) := by
    rw [frzC]
    simp only [h2.1, if_true, h1, hn, List.drop_zero]
    rw [← hn, List.take_length, mapM_id (g := id)]
    · simp
    · intro r hr
      rw [mapM_id (g := id)]
      · simp
      · intro c hc
        exact frz_flat (hf r hr c hc)
  show (frzC h.bl H0.nx 6 (.sl k n 0 n)).map AV.one = some (.one (.lst sz rows))
  rw [this]; rfl
theorem fz_a {H0 h : AH} {cs : List Cell} (hf : ∀ c ∈ cs, flat c = true) : fz H0 h (.agg cs) (.agg cs) := by
  show (cs.mapM (frzC h.bl H0.nx 6)).map AV.agg = some (.agg cs)
  rw [mapM_id (f := frzC h.bl H0.nx 6) (g := id) (fun c hc => frz_flat (hf c hc))]
  simp

section
variable {P : Program} {fn : Func} {H0 h : AH} {R : AV → Prop} {x : AX} {e : Env} {l : List (Nat × Blk)}
theorem Rt1 {t : Nat} {v : AV} (k : R v) (hr : fn.results = #[.tmp t] := by rfl) (hx : x = .normal ∨ x = .jump .ret := by first | exact .inr rfl | exact .inl rfl) (hs : Hs H0 h l := by assumption) (hv : fz H0 h (e t) v := by first | exact fz_i | exact fz_b | exact fz_l | exact fz_c) : Rt P fn H0 R x e h := by
  refine ⟨hx, hs.lo, [e t], v, by simp [resultsA, hr], ?_, k⟩
  show frzR h.bl H0.nx (e t) = some v
  unfold fz at hv
  cases he : e t with
  | tup vs => rw [he] at hv; simp [frzV] at hv
  | _ => rw [he] at hv; exact hv
theorem Rt2 {t u : Nat} {v w : AV} (k : R (.tup [v, w])) (hr : fn.results = #[.tmp t, .tmp u] := by rfl) (hx : x = .normal ∨ x = .jump .ret := by first | exact .inr rfl | exact .inl rfl) (hs : Hs H0 h l := by assumption) (hv : fz H0 h (e t) v := by first | exact fz_i | exact fz_b | exact fz_l | exact fz_c) (hw : fz H0 h (e u) w := by first | exact fz_i | exact fz_b | exact fz_l | exact fz_c) : Rt P fn H0 R x e h := by
  refine ⟨hx, hs.lo, [e t, e u], _, by simp [resultsA, hr], ?_, k⟩
  show ((List.mapM (frzV h.bl H0.nx) [e t, e u]).map AV.tup) = _
  unfold fz at hv hw
  simp [hv, hw]
theorem Rt3 {t u s : Nat} {v w y : AV} (k : R (.tup [v, w, y])) (hr : fn.results = #[.tmp t, .tmp u, .tmp s] := by rfl) (hx : x = .normal ∨ x = .jump .ret := by first | exact .inr rfl | exact .inl rfl) (hs : Hs H0 h l := by assumption) (hv : fz H0 h (e t) v := by first | exact fz_i | exact fz_b | exact fz_l | exact fz_c) (hw : fz H0 h (e u) w := by first | exact fz_i | exact fz_b | exact fz_l | exact fz_c) (hy : fz H0 h (e s) y := by first | exact fz_i | exact fz_b | exact fz_l | exact fz_c) : Rt P fn H0 R x e h := by
  refine ⟨hx, hs.lo, [e t, e u, e s], _, by simp [resultsA, hr], ?_, k⟩
  show ((List.mapM (frzV h.bl H0.nx) [e t, e u, e s]).map AV.tup) = _
  unfold fz at hv hw hy
  simp [hv, hw, hy]
end
end Go.AM
