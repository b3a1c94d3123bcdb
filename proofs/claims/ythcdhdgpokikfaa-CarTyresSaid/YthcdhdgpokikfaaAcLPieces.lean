/- CarPieces. -/
import Derived.Test.YthcdhdgpokikfaaAcLLoss
import Derived.Test.YthcdhdgpokikfaaAmM1
open Go.Proofs
namespace Go.AM.Car
set_option maxRecDepth 10000
set_option maxHeartbeats 4000000

theorem driven_split {c : Compound} : ∀ {l1 l2 : List Stretch} {x w : Int} {b : Bool}, drivenS c (l1 ++ l2) x w b = drivenS c l2 (drivenS c l1 x w b).1 (drivenS c l1 x w b).2.1 (drivenS c l1 x w b).2.2 := by
  intro l1
  induction l1 with
  | nil => intro l2 x w b; rfl
  | cons s l1 ih =>
    intro l2 x w b
    rw [List.cons_append, drivenS, drivenS]
    split <;> exact ih
theorem driven_loss {c : Compound} : ∀ {l : List Stretch} {x w : Int} {b : Bool}, (drivenS c l x w b).1 = x + (drivenS c l 0 w true).1 ∧ (drivenS c l x w b).2.1 = (drivenS c l 0 w true).2.1 := by
  intro l
  induction l with
  | nil => intro x w b; simp [drivenS]
  | cons s l ih =>
    intro x w b
    rw [drivenS, drivenS]
    split
    · have h1 := ih (x := x + lossOf c s w) (w := 1000000) (b := false)
      have h2 := ih (x := 0 + lossOf c s w) (w := 1000000) (b := false)
      exact ⟨by omega, by omega⟩
    · have h1 := ih (x := x + lossOf c s w) (w := w + s.meters * wearAt c s) (b := b)
      have h2 := ih (x := 0 + lossOf c s w) (w := w + s.meters * wearAt c s) (b := true)
      exact ⟨by omega, by omega⟩
theorem driven_bounds {c : Compound} (hc : CompOk c) : ∀ {l : List Stretch} {w : Int}, (∀ s ∈ l, StrOk c.dry.length s) → 0 ≤ w ∧ w ≤ 1000000 → (0 ≤ (drivenS c l 0 w true).2.1 ∧ (drivenS c l 0 w true).2.1 ≤ 1000000) ∧ 0 ≤ (drivenS c l 0 w true).1 ∧ (drivenS c l 0 w true).1 ≤ l.length * 100000 := by
  intro l
  induction l with
  | nil => intro w _ hw; exact ⟨hw, by simp [drivenS]⟩
  | cons s l ih =>
    intro w h hw
    have hr : ∀ s ∈ l, StrOk c.dry.length s := fun s hs => h s (by simp [hs])
    obtain ⟨y1, y2, y3, y4, y5, y6, y7, y8, y9⟩ := str_facts hc (h s (by simp)) (wear := w) hw
    have hlo : 0 ≤ lossOf c s w ∧ lossOf c s w ≤ 100000 := y4
    rw [drivenS, List.length_cons]
    split
    · have h1 := driven_loss (c := c) (l := l) (x := 0 + lossOf c s w) (w := 1000000) (b := false)
      have h2 := ih (w := 1000000) hr (by omega)
      push_cast
      exact ⟨by omega, by omega, by omega⟩
    · have h1 := driven_loss (c := c) (l := l) (x := 0 + lossOf c s w) (w := w + s.meters * wearAt c s) (b := true)
      have h2 := ih (w := w + s.meters * wearAt c s) hr (by omega)
      push_cast
      exact ⟨by omega, by omega, by omega⟩
theorem lossOf_mono {c : Compound} (hc : CompOk c) {s : Stretch} (hs : StrOk c.dry.length s) {w v : Int} (hw : 0 ≤ w) (hv : v ≤ 1000000) (h : w ≤ v) : lossOf c s w ≤ lossOf c s v := by
  obtain ⟨x1, x2, x3, x4, x5, x6⟩ := hs
  have hg := hc.grip_mono (s := s.surface) (d := s.degrees) (wet := s.wet) ⟨x1, by omega⟩ hw h
  have hg2 := hc.grip (s := s.surface) (d := s.degrees) (wet := s.wet) (wear := w) ⟨x1, by omega⟩ (by omega)
  unfold lossOf
  have m1 : 0 ≤ s.meters * (1000 - gripS c s.surface s.degrees s.wet w) := Int.mul_nonneg x3 (by omega)
  have m2 : s.meters * (1000 - gripS c s.surface s.degrees s.wet w) ≤ s.meters * (1000 - gripS c s.surface s.degrees s.wet v) := Int.mul_le_mul_of_nonneg_left (by omega) x3
  rw [Int.tdiv_eq_ediv_of_nonneg m1, Int.tdiv_eq_ediv_of_nonneg (by omega)]
  omega
theorem driven_mono {c : Compound} (hc : CompOk c) : ∀ {l : List Stretch} {w v : Int}, (∀ s ∈ l, StrOk c.dry.length s) → 0 ≤ w → v ≤ 1000000 → w ≤ v → (drivenS c l 0 w true).1 ≤ (drivenS c l 0 v true).1 := by
  intro l
  induction l with
  | nil => intro w v _ _ _ _; simp [drivenS]
  | cons s l ih =>
    intro w v h hw hv hwv
    have hr : ∀ s ∈ l, StrOk c.dry.length s := fun s hs => h s (by simp [hs])
    have hlo := lossOf_mono hc (h s (by simp)) hw hv hwv
    obtain ⟨y1, y2, y3, y4, y5, y6, y7, y8, y9⟩ := str_facts hc (h s (by simp)) (wear := w) (by omega)
    rw [drivenS, drivenS]
    split <;> split
    · have h1 := driven_loss (c := c) (l := l) (x := 0 + lossOf c s w) (w := 1000000) (b := false)
      have h2 := driven_loss (c := c) (l := l) (x := 0 + lossOf c s v) (w := 1000000) (b := false)
      omega
    · exfalso; omega
    · have h1 := driven_loss (c := c) (l := l) (x := 0 + lossOf c s w) (w := w + s.meters * wearAt c s) (b := true)
      have h2 := driven_loss (c := c) (l := l) (x := 0 + lossOf c s v) (w := 1000000) (b := false)
      have h3 := ih (w := w + s.meters * wearAt c s) (v := 1000000) hr (by omega) (by omega) (by omega)
      omega
    · have h1 := driven_loss (c := c) (l := l) (x := 0 + lossOf c s w) (w := w + s.meters * wearAt c s) (b := true)
      have h2 := driven_loss (c := c) (l := l) (x := 0 + lossOf c s v) (w := v + s.meters * wearAt c s) (b := true)
      have h3 := ih (w := w + s.meters * wearAt c s) (v := v + s.meters * wearAt c s) hr (by omega) (by omega) (by omega)
      omega
theorem LoopOk.take {l : List Stretch} {n : Int} (h : LoopOk l n) (k : Nat) : LoopOk (l.take k) n := ⟨by have := h.1; simp; omega, fun s hs => h.2 s (List.mem_of_mem_take hs)⟩
theorem LoopOk.drop {l : List Stretch} {n : Int} (h : LoopOk l n) (k : Nat) : LoopOk (l.drop k) n := ⟨by have := h.1; simp; omega, fun s hs => h.2 s (List.mem_of_mem_drop hs)⟩

theorem lawPieces (c : Compound) (l : List Stretch) (cut wear more : Int) (H : AH) (hl : l.length ≤ 9223372036854775807) : Cv Try.prog 10 [.agg c.cells, .one (.lst 4 (l.map strC)), vint cut, vint wear, vint more] H (Cl (· = vbool true)) := by
  refine Cv_of Try.func10 rfl rfl rfl (fun H1 hs => ?_)
  by_cases hv : LossArg c l wear ∧ 0 ≤ cut ∧ cut ≤ l.length ∧ 0 ≤ more ∧ more ≤ 1000000 - wear
  · obtain ⟨hv', c1, c2, m1, m2⟩ := hv
    have hv2 := hv'
    obtain ⟨v1, v2, v3, v4⟩ := hv2
    obtain ⟨k, rfl⟩ := Int.eq_ofNat_of_zero_le c1
    have b1 := driven_bounds v1 v2.2 (w := wear) ⟨v3, v4⟩
    have b2 := driven_bounds v1 (v2.take k).2 (w := wear) ⟨v3, v4⟩
    have hvm : LossArg c l (wear + more) := ⟨v1, v2, by omega, by omega⟩
    have hv1 : LossArg c (l.take k) wear := ⟨v1, v2.take k, by omega, by omega⟩
    have hvd : LossArg c (l.drop k) (drivenS c (l.take k) 0 wear true).2.1 := ⟨v1, v2.drop k, by omega, by omega⟩
    have b3 := driven_bounds v1 (v2.drop k).2 (w := (drivenS c (l.take k) 0 wear true).2.1) (by omega)
    have l30 := v2.1
    have t1 : ((l.take k).length : Int) ≤ 30 := by simp; omega
    have t2 : ((l.drop k).length : Int) ≤ 30 := by simp; omega
    have t3 : (l.take k).length ≤ 9223372036854775807 := by omega
    have t4 : (l.drop k).length ≤ 9223372036854775807 := by omega
    have key : drivenS c l 0 wear true = drivenS c (l.drop k) (drivenS c (l.take k) 0 wear true).1 (drivenS c (l.take k) 0 wear true).2.1 (drivenS c (l.take k) 0 wear true).2.2 := by
      rw [← driven_split, List.take_append_drop]
    have key2 := driven_loss (c := c) (l := l.drop k) (x := (drivenS c (l.take k) 0 wear true).1) (w := (drivenS c (l.take k) 0 wear true).2.1) (b := (drivenS c (l.take k) 0 wear true).2.2)
    rw [← key] at key2
    have key3 := driven_mono v1 v2.2 (w := wear) (v := wear + more) v3 (by omega) (by omega)
    have la := driven_lasts v1 (l := l) (loss := 0) (w := wear) v2.2
    have lb := driven_lasts v1 (l := l) (loss := 0) (w := wear + more) v2.2
    have lc : (drivenS c l 0 (wear + more) true).2.2 = true → (drivenS c l 0 wear true).2.2 = true := by
      rw [la, lb, decide_eq_true_eq, decide_eq_true_eq]
      exact fun h => h.imp (by omega) id
    repeat' (first | (refine q_ev ?_; first | refine Ev_seq.2 ?_ | refine Ev_block.2 ?_ | refine Ev.scope ?_ | refine Ev_label.2 ?_ | refine Ev_rp ?_ | refine Ev_rs ?_ | refine Ev_rt ?_ | refine Ev_skip.2 ?_ | refine Ev_ret.2 ?_ | refine Ev_exit.2 ?_ | refine Ev_ct ?_ | refine Ev_cf ?_ | refine Ev_cn (fun hg => ?_) (fun hg => ?_) | refine Ev_cd (fun hg => ?_) (fun hg => ?_) | refine Ev_cm (fun hg => ?_) (fun hg => ?_) | refine Ev_cs (fun hg => ?_) (fun hg => ?_)) | (refine q_nt ?_; first | refine So_nilR ?_) | (refine q_nil ?_; first | refine So_nil ?_) | (refine q_g ?_; first | refine So_gy ?_ | refine So_gn ?_ | refine So_gu ?_ | refine So_gTn (fun hg => ?_) (fun hg => ?_) | refine So_gFn (fun hg => ?_) (fun hg => ?_) | refine So_gT (fun hg => ?_) (fun hg => ?_) | refine So_gF (fun hg => ?_) (fun hg => ?_) | refine So_gTm (fun hg => ?_) (fun hg => ?_) | refine So_gFm (fun hg => ?_) (fun hg => ?_) | refine So_gTb (fun hg => ?_) (fun hg => ?_) | refine So_gFb (fun hg => ?_) (fun hg => ?_)) | (refine q_mv ?_; first | refine So_mc ?_ | refine So_ma ?_ | refine So_mv ?_) | (refine q_as ?_; first | refine So_ac ?_ | refine So_aa ?_ | refine So_av ?_) | (refine q_ld ?_; first | refine So_lb ?_ | refine So_la ?_ | refine So_lp ?_ | refine So_lpa ?_ | refine So_lx ?_ | refine So_lxa ?_ | refine So_lxO ?_ | refine So_lxaO ?_ | refine So_ln (fun x hx => ?_) | refine So_lna (fun x hx => ?_) | refine So_lnO (fun x hx => ?_) | refine So_lnaO (fun x hx => ?_)) | (refine q_fa ?_; first | refine So_fa ?_ | refine So_fe ?_) | (refine q_ia ?_; first | refine So_ia ?_ | refine So_iaO ?_) | (refine q_cl ?_; first | refine So_fn (known_cv _) ?_ | refine So_fn (short_cv _ _) ?_ | refine So_fn (Loss_ok wear _ (ShortOk.sized (by assumption)) .lst hl hv') ?_ | refine So_fn (Loss_ok (wear + more) _ (ShortOk.sized (by assumption)) .lst hl hvm) ?_ | refine So_fn (Loss_ok (l := l.take k) wear _ (ShortOk.sized (by assumption)) .lst t3 hv1) ?_ | refine So_fn (Loss_ok (l := l.drop k) _ _ (ShortOk.sized (by assumption)) .lst t4 hvd) ?_ | refine So_fn (Lasts_ok wear _ (ShortOk.sized (by assumption)) .lst hl hv') ?_ | refine So_fn (Lasts_ok (wear + more) _ (ShortOk.sized (by assumption)) .lst hl hvm) ?_ | refine So_fn (Compound_cv _ (ShortOk.sized (by assumption))) ?_ | refine So_fn (Loop_cv _ _ .lst hl (by have := (show ShortOk c by assumption).1; unfold fits; omega)) ?_) | (refine q_bin ?_; first | refine So_lss ?_ | refine So_leq ?_ | refine So_gtr ?_ | refine So_geq ?_ | refine So_eql ?_ | refine So_neq ?_ | refine So_add ?_ | refine So_sub ?_ | refine So_mul ?_ | refine So_quo ?_ | refine So_rem ?_ | refine So_eqb ?_ | refine So_neb ?_ | refine So_lssw ?_ | refine So_eqlw ?_ | refine So_neqw ?_ | refine So_addw ?_ | refine So_shl ?_ | refine So_shr ?_ | refine So_and1 ?_) | (refine q_pk ?_; first | refine So_pt ?_ | refine So_pf ?_ | refine So_pb ?_) | (refine q_un ?_; first | refine So_notd ?_ | refine So_not ?_) | (refine q_len ?_; first | refine So_len ?_ | refine So_len0 ?_ | refine So_lenO ?_) | (refine q_st ?_; first | refine So_st (fun Hb hsb => ?_) | refine So_stO (fun Hb hsb => ?_)) | (refine q_ex ?_; first | refine So_ex ?_) | (refine q_sl ?_; first | refine So_slh ?_ | refine So_sll ?_) | (refine q_f ?_; first | refine So_f ?_ | refine So_ff ?_) | (refine q_bi ?_; first | refine So_min ?_ | refine So_max ?_ | refine So_apq (fun cg gg Hb hgg hsb => ?_) | refine So_apr (fun cg gg Hb hgg hsb => ?_) | refine So_ap0 (fun kb Hb hsb => ?_) | refine So_ap1 (fun Hb hsb => ?_)) | (refine q_rt ?_; first | refine Rt1 ?_ | refine Rt2 ?_ | refine Rt3 ?_ | refine Ro1 ?_ | refine Ro2 ?_ | refine Ro3 ?_ | refine RtC ?_) | refine So_box (fun kb Hb hsb => ?_) | refine So_alloc (fun kb Hb hsb => ?_) | refine So_mf ?_ | refine So_bs (fun kb Hb hsb => ?_) | refine So_bd ?_ | fail)
    all_goals first | rfl | (exfalso; omega) | contradiction | exact Bool.noConfusion ((show (drivenS c l 0 wear true).2.2 = false by assumption).symm.trans (lc (by assumption)))
  · repeat' (first | (refine q_ev ?_; first | refine Ev_seq.2 ?_ | refine Ev_block.2 ?_ | refine Ev.scope ?_ | refine Ev_label.2 ?_ | refine Ev_rp ?_ | refine Ev_rs ?_ | refine Ev_rt ?_ | refine Ev_skip.2 ?_ | refine Ev_ret.2 ?_ | refine Ev_exit.2 ?_ | refine Ev_ct ?_ | refine Ev_cf ?_ | refine Ev_cn (fun hg => ?_) (fun hg => ?_) | refine Ev_cd (fun hg => ?_) (fun hg => ?_) | refine Ev_cm (fun hg => ?_) (fun hg => ?_) | refine Ev_cs (fun hg => ?_) (fun hg => ?_)) | (refine q_nt ?_; first | refine So_nilR ?_) | (refine q_nil ?_; first | refine So_nil ?_) | (refine q_g ?_; first | refine So_gy ?_ | refine So_gn ?_ | refine So_gu ?_ | refine So_gTn (fun hg => ?_) (fun hg => ?_) | refine So_gFn (fun hg => ?_) (fun hg => ?_) | refine So_gT (fun hg => ?_) (fun hg => ?_) | refine So_gF (fun hg => ?_) (fun hg => ?_) | refine So_gTm (fun hg => ?_) (fun hg => ?_) | refine So_gFm (fun hg => ?_) (fun hg => ?_) | refine So_gTb (fun hg => ?_) (fun hg => ?_) | refine So_gFb (fun hg => ?_) (fun hg => ?_)) | (refine q_mv ?_; first | refine So_mc ?_ | refine So_ma ?_ | refine So_mv ?_) | (refine q_as ?_; first | refine So_ac ?_ | refine So_aa ?_ | refine So_av ?_) | (refine q_ld ?_; first | refine So_lb ?_ | refine So_la ?_ | refine So_lp ?_ | refine So_lpa ?_ | refine So_lx ?_ | refine So_lxa ?_ | refine So_lxO ?_ | refine So_lxaO ?_ | refine So_ln (fun x hx => ?_) | refine So_lna (fun x hx => ?_) | refine So_lnO (fun x hx => ?_) | refine So_lnaO (fun x hx => ?_)) | (refine q_fa ?_; first | refine So_fa ?_ | refine So_fe ?_) | (refine q_ia ?_; first | refine So_ia ?_ | refine So_iaO ?_) | (refine q_cl ?_; first | refine So_fn (known_cv _) ?_ | refine So_fn (short_cv _ _) ?_ | refine So_fn (Compound_cv _ (ShortOk.sized (by assumption))) ?_ | refine So_fn (Loop_cv _ _ .lst hl (by have := (show ShortOk c by assumption).1; unfold fits; omega)) ?_) | (refine q_bin ?_; first | refine So_lss ?_ | refine So_leq ?_ | refine So_gtr ?_ | refine So_geq ?_ | refine So_eql ?_ | refine So_neq ?_ | refine So_add ?_ | refine So_sub ?_ | refine So_mul ?_ | refine So_quo ?_ | refine So_rem ?_ | refine So_eqb ?_ | refine So_neb ?_ | refine So_lssw ?_ | refine So_eqlw ?_ | refine So_neqw ?_ | refine So_addw ?_ | refine So_shl ?_ | refine So_shr ?_ | refine So_and1 ?_) | (refine q_pk ?_; first | refine So_pt ?_ | refine So_pf ?_ | refine So_pb ?_) | (refine q_un ?_; first | refine So_notd ?_ | refine So_not ?_) | (refine q_len ?_; first | refine So_len ?_ | refine So_len0 ?_ | refine So_lenO ?_) | (refine q_st ?_; first | refine So_st (fun Hb hsb => ?_) | refine So_stO (fun Hb hsb => ?_)) | (refine q_ex ?_; first | refine So_ex ?_) | (refine q_sl ?_; first | refine So_slh ?_ | refine So_sll ?_) | (refine q_f ?_; first | refine So_f ?_ | refine So_ff ?_) | (refine q_bi ?_; first | refine So_min ?_ | refine So_max ?_ | refine So_apq (fun cg gg Hb hgg hsb => ?_) | refine So_apr (fun cg gg Hb hgg hsb => ?_) | refine So_ap0 (fun kb Hb hsb => ?_) | refine So_ap1 (fun Hb hsb => ?_)) | (refine q_rt ?_; first | refine Rt1 ?_ | refine Rt2 ?_ | refine Rt3 ?_ | refine Ro1 ?_ | refine Ro2 ?_ | refine Ro3 ?_ | refine RtC ?_) | refine So_box (fun kb Hb hsb => ?_) | refine So_alloc (fun kb Hb hsb => ?_) | refine So_mf ?_ | refine So_bs (fun kb Hb hsb => ?_) | refine So_bd ?_ | fail)
    all_goals first | rfl | exact absurd ⟨⟨by assumption, by assumption, by omega, by omega⟩, by omega, by omega, by omega, by omega⟩ hv
end Go.AM.Car
