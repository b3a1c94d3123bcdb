/- Slices of slices; every operation. -/
import Derived.Test.YthcdhdgpokikfaaAmOps4
namespace Go.AM

theorem int_sound {V : View} {x : AV} {v : Value} {n : Int} (h : VR V x v) (hn : intOf? x = some n) : ∃ k, v = .int k n := by
  unfold intOf? at hn
  split at hn
  · rename_i k m
    injection hn with hn
    subst hn
    exact ⟨k, toV_sound h _ rfl⟩
  · cases hn

theorem run_sliceBound {P : Program} {w : World} {k : IntKind} {i : Int} {y : Nat} {code : BoundsCode} (h0 : 0 ≤ i) (h1 : i ≤ y) : (Instr.sliceBound (.int k i) y code).run P w = .ok i.toNat w := by
  simp [Instr.sliceBound, asIntOf, h0, h1]

theorem bound_sound {V : View} {x : Option AV} {v : Option Value} (h : ∀ a b, x = some a → v = some b → VR V a b) (hs : x.isSome = v.isSome) {d n : Nat} (hb : boundA x d = some n) :
    (x = none ∧ v = none ∧ n = d) ∨ (∃ k i, v = some (.int k i) ∧ 0 ≤ i ∧ i.toNat = n) := by
  cases x with
  | none =>
    cases v with
    | none => simp only [boundA] at hb; injection hb with hb; exact .inl ⟨rfl, rfl, hb.symm⟩
    | some _ => simp at hs
  | some a =>
    cases v with
    | none => simp at hs
    | some b =>
      simp only [boundA] at hb
      split at hb
      · rename_i i hi
        obtain ⟨k, rfl⟩ := int_sound (h a b rfl rfl) hi
        split at hb
        · rename_i h0
          injection hb with hb
          exact .inr ⟨k, i, rfl, h0, hb⟩
        · cases hb
      · cases hb

/-- A bound, as it stands. -/
def BoundIs (v : Option Value) (d n : Nat) : Prop := (v = none ∧ n = d) ∨ ∃ k i, v = some (.int k i) ∧ 0 ≤ i ∧ i.toNat = n

theorem run_slice2 {P : Program} {w : World} {t e : TypeId} {sz : Nat} (ht : P.underlying t = some (.slice e)) (hsz : szOf P e = some sz) {A : Option Addr} {n cap l h : Nat} {lo hi : Option Value}
    (hl : BoundIs lo 0 l) (hh : BoundIs hi n h) (hlh : l ≤ h) (hn : h ≤ n) (hc : n ≤ cap) :
    (Instr.sliceAt t (.slice A n cap) lo hi none).run P w = .ok (.slice (if cap = l then A else A.map (·.add (l * sz))) (h - l) (cap - l)) w := by
  rcases hl with ⟨rfl, rfl⟩ | ⟨k, i, rfl, i0, i1⟩ <;> rcases hh with ⟨rfl, rfl⟩ | ⟨k', i', rfl, j0, j1⟩
  · simp [Instr.sliceAt, Instr.slice, Instr.sliceBounds, run_underlying ht, run_size hsz]
  · have hb := @run_sliceBound P w k' i' cap .sliceAcap j0 (by omega)
    rw [j1] at hb
    simp [Instr.sliceAt, Instr.slice, Instr.sliceBounds, run_underlying ht, run_size hsz, hb]
  · have hb := @run_sliceBound P w k i h .sliceB i0 (by omega)
    rw [i1] at hb
    simp [Instr.sliceAt, Instr.slice, Instr.sliceBounds, run_underlying ht, run_size hsz, hb]
  · have hb := @run_sliceBound P w k' i' cap .sliceAcap j0 (by omega)
    rw [j1] at hb
    have hb2 := @run_sliceBound P w k i h .sliceB i0 (by omega)
    rw [i1] at hb2
    simp [Instr.sliceAt, Instr.slice, Instr.sliceBounds, run_underlying ht, run_size hsz, hb, hb2]
theorem run_slice3 {P : Program} {w : World} {t e : TypeId} {sz : Nat} (ht : P.underlying t = some (.slice e)) (hsz : szOf P e = some sz) {A : Option Addr} {n cap : Nat} {lo : Option Value} {k k' : IntKind} {i i' : Int}
    (hl : BoundIs lo 0 0) (h0 : 0 ≤ i) (h1 : i.toNat = 0) (h2 : 0 ≤ i') (h3 : i'.toNat = 0) :
    (Instr.sliceAt t (.slice A n cap) lo (some (.int k i)) (some (.int k' i'))).run P w = .ok (.slice A 0 0) w := by
  have hb := @run_sliceBound P w k' i' cap .slice3Acap h2 (by omega)
  rw [h3] at hb
  have hb1 := @run_sliceBound P w k i 0 .slice3B h0 (by omega)
  rw [h1] at hb1
  rcases hl with ⟨rfl, _⟩ | ⟨k2, i2, rfl, g0, g1⟩
  · simp [Instr.sliceAt, Instr.slice, Instr.sliceBounds, run_underlying ht, run_size hsz, hb, hb1]
  · have hb2 := @run_sliceBound P w k2 i2 0 .slice3C g0 (by omega)
    rw [g1] at hb2
    simp [Instr.sliceAt, Instr.slice, Instr.sliceBounds, run_underlying ht, run_size hsz, hb, hb1, hb2]

theorem CR.sc_inv {V : View} {x v : Value} (h : CR V (.sc x) v) : v = x ∧ plainC x = true := by
  cases h with
  | ro h => cases h with | sc h => exact ⟨rfl, h⟩
theorem CR.e0_inv {V : View} {v : Value} (h : CR V .e0 v) : ∃ A, v = .slice A 0 0 := by
  cases h with
  | ro h => cases h with | e0 => exact ⟨_, rfl⟩
theorem CR.lst_inv {V : View} {sz : Nat} {rows : List (List Cell)} {v : Value} (h : CR V (.lst sz rows) v) : (rows = [] ∧ ∃ A, v = .slice A 0 0) ∨ ∃ (a : Addr) (cap : Nat) (u : Nat → Nat → Value), v = .slice (some a) rows.length cap ∧ rows.length ≤ cap ∧ a.spot = none ∧ (∀ r ∈ rows, r.length = sz) ∧
    (∀ i j c, rc rows i j = some c → ¬ own V a.block ∧ V.w.cell? ⟨a.block, a.off + (i * sz + j), none⟩ = some (u i j)) ∧ (∀ i j c, rc rows i j = some c → RO V.w (own V) c (u i j)) := by
  cases h with
  | ro h => cases h with
    | @lst sz rows a cap u h1 h2 h3 h4 h5 => exact .inr ⟨a, cap, u, rfl, h1, h2, h3, h4, h5⟩
    | nil => exact .inl ⟨rfl, _, rfl⟩
theorem rowsOf_sc {bl : Nat → Blk} {sz : Nat} {v : Value} {rows : List (List Cell)} (h : rowsOf bl sz (.sc v) = some rows) : v = .slice none 0 0 ∧ rows = [] := by
  unfold rowsOf at h
  split at h <;> first | (rename_i he; injection he with he; injection h with h; exact ⟨he, h.symm⟩) | (rename_i he; cases he) | (cases h)

theorem sliceA_sound {P : Program} {V : View} (H : HR V) {t e : TypeId} {sz : Nat} (ht : P.underlying t = some (.slice e)) (hsz : szOf P e = some sz) {c : Cell} {v : Value} (hc : CR V c v)
    {lo hi mx : Option AV} {lo' hi' mx' : Option Value} (hlo : ∀ a b, lo = some a → lo' = some b → VR V a b) (hlos : lo.isSome = lo'.isSome)
    (hhi : ∀ a b, hi = some a → hi' = some b → VR V a b) (hhis : hi.isSome = hi'.isSome) (hmx : ∀ a b, mx = some a → mx' = some b → VR V a b) (hmxs : mx.isSome = mx'.isSome) {r : AV}
    (h : sliceA V.bl sz c lo hi mx = some r) : ∃ v', (Instr.sliceAt t v lo' hi' mx').run P V.w = .ok v' V.w ∧ VR V r v' := by
  unfold sliceA at h
  split at h
  · rename_i n rows hn hr
    split at h
    · rename_i l hh hl hhh
      split at h
      · rename_i hle
        obtain ⟨A, cap, R⟩ := rowsOf_sound H hc hr
        have hv := R.val
        subst hv
        have hnn : n = rows.length := by
          rcases lenOf_sound hc hn with ⟨_, _, h1, _⟩ | ⟨h1, _⟩ | ⟨_, h1, _⟩ | ⟨_, _, _, _, h1, _⟩
          · injection h1 with _ h1; exact h1.symm
          all_goals cases h1
        subst hnn
        have hcap := R.cap_le
        have bl : BoundIs lo' 0 l := by
          rcases bound_sound hlo hlos hl with ⟨_, h1, h2⟩ | h1
          · exact .inl ⟨h1, h2⟩
          · exact .inr h1
        have bh : BoundIs hi' rows.length hh := by
          rcases bound_sound hhi hhis hhh with ⟨_, h1, h2⟩ | h1
          · exact .inl ⟨h1, h2⟩
          · exact .inr h1
        split at h
        · rename_i mxa
          split at h
          · rename_i m hia hm
            split at h
            · rename_i hz
              obtain ⟨rfl, rfl, rfl⟩ := hz
              injection h with h
              subst h
              rcases bound_sound hmx hmxs hm with ⟨h1, _⟩ | ⟨k, i, rfl, h0, h2⟩
              · cases h1
              · rcases bh with ⟨rfl, _⟩ | ⟨k', i', rfl, j0, j1⟩
                · simp at hhis
                · exact ⟨_, run_slice3 ht hsz bl j0 j1 h0 h2, .one (.ro .e0)⟩
            · cases h
          · cases h
        · cases mx' with
          | some _ => simp at hmxs
          | none =>
            have run := run_slice2 (P := P) (w := V.w) (A := A) ht hsz bl bh hle.1 hle.2 hcap
            refine ⟨_, run, ?_⟩
            split at h
            · injection h with h
              subst h
              obtain ⟨h1, h2⟩ := rowsOf_sc hr
              subst h1 h2
              obtain ⟨h3, _⟩ := hc.sc_inv
              injection h3 with hA h3 h4
              simp only [List.length_nil] at hle
              obtain rfl : l = 0 := by omega
              obtain rfl : hh = 0 := by omega
              subst hA h4
              exact .one (.ro (.sc rfl))
            · injection h with h
              subst h
              obtain ⟨A0, h3⟩ := hc.e0_inv
              injection h3 with hA h3 h4
              obtain rfl : l = 0 := by omega
              obtain rfl : hh = 0 := by omega
              subst hA h4
              exact .one (.ro .e0)
            · rename_i sz' rows'
              injection h with h
              subst h
              simp only [rowsOf] at hr
              split at hr
              · rename_i hs
                subst hs
                injection hr with hr
                subst hr
                rcases hc.lst_inv with ⟨hr0, A0, h3⟩ | ⟨a, cap', u, h3, h4, h5, h6, h7, h8⟩
                · subst hr0
                  injection h3 with hA h3 h3'
                  subst hA h3'
                  simp only [List.length_nil] at hle
                  obtain rfl : l = 0 := by omega
                  obtain rfl : hh = 0 := by omega
                  exact .one (.ro .nil)
                injection h3 with hA h3 h3'
                subst hA h3'
                refine .one (.ro ?_)
                have hlen : ((rows'.drop l).take (hh - l)).length = hh - l := by simp; omega
                have key : ∀ (a' : Addr), a'.spot = none → ((∃ i j c, rc ((rows'.drop l).take (hh - l)) i j = some c) → a' = ⟨a.block, a.off + l * sz', none⟩) →
                    RO V.w (own V) (.lst sz' ((rows'.drop l).take (hh - l))) (.slice (some a') (hh - l) (cap - l)) := by
                  intro a' hs' ha'
                  have := @RO.lst V.w (own V) sz' ((rows'.drop l).take (hh - l)) a' (cap - l) (fun i j => u (l + i) j) (by omega) hs' (fun r hr => h6 r (List.mem_of_mem_drop (List.mem_of_mem_take hr))) (fun i j c hc => ?_) (fun i j c hc => h8 _ _ _ (rc_sub hc).2)
                  · rw [hlen] at this; exact this
                  · obtain ⟨hi, hc'⟩ := rc_sub hc
                    have he := ha' ⟨i, j, c, hc⟩
                    subst he
                    obtain ⟨g1, g2⟩ := h7 _ _ _ hc'
                    refine ⟨g1, ?_⟩
                    have : a.off + l * sz' + (i * sz' + j) = a.off + ((l + i) * sz' + j) := by rw [Nat.add_mul]; omega
                    simp only [this]
                    exact g2
                split
                · rename_i hcl
                  refine key a h5 (fun ⟨i, j, c, hc⟩ => ?_)
                  obtain ⟨hi, _⟩ := rc_sub hc
                  omega
                · simp only [Option.map_some]
                  rw [add_spot h5]
                  exact key _ rfl (fun _ => rfl)
              · cases hr
            · rename_i hd n' lo' len
              split at h
              · rename_i hc1
                injection h with h
                subst h
                obtain ⟨hc1, hc2⟩ := hc1
                subst hc1
                -- an empty one, wherever it lies
                have hrn : ∀ r0 : List (List Cell), V.bl hd = .arr sz r0 → r0.length = n' → SlOk V hd sz n' lo' len (.slice A rows.length cap) := by
                  intro r0 h0 h1
                  cases hc with
                  | ro hr => cases hr
                  | sl g1 g2 g3 => exact (g3 _ _ h0).2 h1
                have hA : ∃ ad, A = some ad ∧ ad.spot = none := by
                  unfold rowsOf at hr
                  simp only at hr
                  split at hr
                  · rename_i sz' rows' hb
                    split at hr
                    · rename_i hcc
                      obtain ⟨hcc1, hcc2⟩ := hcc
                      subst hcc1
                      obtain ⟨_, _, _, _, _, _, _, _, h9⟩ := hrn _ hb hcc2
                      injection h9 with h9
                      exact ⟨_, h9, rfl⟩
                    · cases hr
                  · cases hr
                obtain ⟨ad, rfl, hsp⟩ := hA
                have hnil : ∀ (a' : Addr), a'.spot = none → VR V (.one (.lst sz [])) (.slice (some a') (l - l) (cap - l)) := by
                  intro a' hs
                  rw [Nat.sub_self]
                  exact .one (.ro (.lst (rows := []) (fun _ _ => undef) (Nat.zero_le _) hs (fun r hr => by simp at hr) (fun i j c hc => by simp [rc] at hc) (fun i j c hc => by simp [rc] at hc)))
                split
                · exact hnil ad hsp
                · simp only [Option.map_some]
                  exact hnil _ (by rw [add_spot hsp])
              · rename_i hc1
                injection h with h
                subst h
                have hA : ∃ ad, A = some ad := by
                  cases hc with
                  | ro hr => cases hr
                  | sl g1 g2 g3 => exact ⟨_, rfl⟩
                obtain ⟨ad, rfl⟩ := hA
                have hfin : ∃ ad', (if cap = l then some ad else Option.map (fun x => x.add (l * sz)) (some ad)) = some ad' := by split <;> exact ⟨_, rfl⟩
                obtain ⟨ad', hfin⟩ := hfin
                rw [hfin]
                cases hc with
                | ro hr => cases hr
                | sl g1 g2 g3 =>
                  refine .one (.sl g1 (by omega) (fun sz' r0 h0 => ?_))
                  obtain ⟨g4, g5⟩ := g3 _ _ h0
                  refine ⟨g4, fun h1 => ?_⟩
                  obtain ⟨g6, cap', cells, e', fr, g7, g8, g9, g10⟩ := g5 h1
                  injection g10 with g11 g12 g13
                  injection g11 with g11
                  subst g11 g13
                  have hsz' : sz' = sz := by
                    unfold rowsOf at hr
                    simp only at hr
                    rw [h0] at hr
                    simp only at hr
                    split at hr
                    · rename_i hcc; exact hcc.1
                    · cases hr
                  subst hsz'
                  refine ⟨by omega, cap - l, cells, e', fr, g7, by omega, ?_, ?_⟩
                  · have : lo' + l + (cap - l) = lo' + cap := by omega
                    rw [this]; exact g9
                  · rw [← hfin]
                    split
                    · rename_i hcl
                      have : l = 0 := by
                        rcases Nat.eq_zero_or_pos l with h2 | h2
                        · exact h2
                        · exact absurd ⟨by omega, h2⟩ hc1
                      subst this
                      simp
                    · simp only [Option.map_some]
                      rw [add_spot rfl, Nat.add_mul]
            · cases h
      · cases h
    · cases h
  · cases h

end Go.AM
