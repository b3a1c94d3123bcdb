/- Grips. -/
import Derived.Test.YthcdhdgpokikfaaAcComp
import Derived.Test.YthcdhdgpokikfaaAmM1
open Go.Proofs
namespace Go.AM.Car
set_option maxRecDepth 10000
set_option maxHeartbeats 4000000

def freshS : List (Int × Int) → Int → Int
  | [], _ => 0
  | [a], _ => a.2
  | a :: b :: l, d => if d ≤ a.1 then a.2 else if d ≤ b.1 then a.2 + ((b.2 - a.2) * (d - a.1)).tdiv (b.1 - a.1) else freshS (b :: l) d

theorem tdiv_part {x p q : Int} (hp : 0 ≤ p) (hq : p ≤ q) (h0 : 0 < q) : (0 ≤ x → 0 ≤ (x * p).tdiv q ∧ (x * p).tdiv q ≤ x) ∧ (x ≤ 0 → x ≤ (x * p).tdiv q ∧ (x * p).tdiv q ≤ 0) := by
  have main : ∀ y : Int, 0 ≤ y → 0 ≤ (y * p).tdiv q ∧ (y * p).tdiv q ≤ y := by
    intro y hy
    refine ⟨Int.tdiv_nonneg (Int.mul_nonneg hy hp) (by omega), ?_⟩
    rw [Int.tdiv_eq_ediv_of_nonneg (Int.mul_nonneg hy hp)]
    refine Int.ediv_le_of_le_mul h0 ?_
    exact Int.mul_le_mul_of_nonneg_left hq hy
  refine ⟨main x, fun hx => ?_⟩
  have := main (-x) (by omega)
  rw [Int.neg_mul, Int.neg_tdiv] at this
  omega
theorem drop_cons2 {α : Type} {l : List α} {i : Nat} {x y : α} (h1 : l[i]? = some x) (h2 : l[i + 1]? = some y) : l.drop i = x :: y :: l.drop (i + 2) := by
  rw [drop_at h1, drop_at h2]
theorem freshS_bounds : ∀ {l : List (Int × Int)} {d : Int}, l ≠ [] → (∀ x ∈ l, 0 ≤ x.2 ∧ x.2 ≤ 1000) → (∀ (j : Nat) x y, l[j]? = some x → l[j + 1]? = some y → x.1 < y.1) → 0 ≤ freshS l d ∧ freshS l d ≤ 1000 := by
  intro l d
  induction l with
  | nil => intro h; exact absurd rfl h
  | cons a l ih =>
    intro _ hb hs
    cases l with
    | nil => exact hb a (by simp)
    | cons b l =>
      unfold freshS
      have ha := hb a (by simp)
      have hb' := hb b (by simp)
      have hab := hs 0 a b rfl rfl
      split
      · exact ha
      · split
        · have hp := tdiv_part (x := b.2 - a.2) (p := d - a.1) (q := b.1 - a.1) (by omega) (by omega) (by omega)
          by_cases h : a.2 ≤ b.2
          · have := hp.1 (by omega); omega
          · have := hp.2 (by omega); omega
        · exact ih (by simp) (fun x hx => hb x (by simp [hx])) (fun j x y h1 h2 => hs (j + 1) x y h1 h2)
theorem RowOk.fresh {l : List (Int × Int)} (h : RowOk l) (d : Int) : 0 ≤ freshS l d ∧ freshS l d ≤ 1000 := by
  refine freshS_bounds (fun e => ?_) (fun x hx => ?_) (fun j x y h1 h2 => ?_)
  · have := h.1; rw [e] at this; simp at this
  · obtain ⟨j, hj⟩ := List.getElem?_of_mem hx
    have := h.2.2 j x hj
    omega
  · exact (h.2.2 (j + 1) y h2).2.2.2.2 x (by omega) h1

theorem fits_mul {a b : Int} {A B : Nat} (ha : a.natAbs ≤ A) (hb : b.natAbs ≤ B) (h : A * B ≤ 9223372036854775807) : fits (a * b) := by
  have h1 : (a * b).natAbs ≤ A * B := by rw [Int.natAbs_mul]; exact Nat.mul_le_mul ha hb
  unfold fits; omega

theorem rfresh_cv {l : List (Int × Int)} (d : Int) (H : AH) (hl : RowOk l) (hd : -40 ≤ d ∧ d ≤ 80) : Cv Try.prog 51 [.one (.lst 2 (l.map knotC)), vint d] H (Cl (· = vint (freshS l d))) := by
  have hlen := hl.1
  have hlen2 := hl.2.1
  have hk := hl.2.2
  refine Cv_of Try.func51 rfl rfl rfl (fun H1 hs => ?_)
  repeat' (first | (refine q_ev ?_; first | refine Ev_seq.2 ?_ | refine Ev_block.2 ?_ | refine Ev.scope ?_ | refine Ev_label.2 ?_ | refine Ev_rp ?_ | refine Ev_rs ?_ | refine Ev_rt ?_ | refine Ev_skip.2 ?_ | refine Ev_ret.2 ?_ | refine Ev_exit.2 ?_ | refine Ev_ct ?_ | refine Ev_cf ?_ | refine Ev_cn (fun hg => ?_) (fun hg => ?_) | refine Ev_cd (fun hg => ?_) (fun hg => ?_) | refine Ev_cm (fun hg => ?_) (fun hg => ?_) | refine Ev_cs (fun hg => ?_) (fun hg => ?_)) | (refine q_nt ?_; first | refine So_nilR ?_) | (refine q_nil ?_; first | refine So_nil ?_) | (refine q_g ?_; first | refine So_gy ?_ | refine So_gn ?_ | refine So_gu ?_ | refine So_gTn (fun hg => ?_) (fun hg => ?_) | refine So_gFn (fun hg => ?_) (fun hg => ?_) | refine So_gT (fun hg => ?_) (fun hg => ?_) | refine So_gF (fun hg => ?_) (fun hg => ?_) | refine So_gTm (fun hg => ?_) (fun hg => ?_) | refine So_gFm (fun hg => ?_) (fun hg => ?_) | refine So_gTb (fun hg => ?_) (fun hg => ?_) | refine So_gFb (fun hg => ?_) (fun hg => ?_)) | (refine q_mv ?_; first | refine So_mc ?_ | refine So_ma ?_ | refine So_mv ?_) | (refine q_as ?_; first | refine So_ac ?_ | refine So_aa ?_ | refine So_av ?_) | (refine q_ld ?_; first | refine So_lb ?_ | refine So_la ?_ | refine So_lp ?_ | refine So_lpa ?_ | refine So_lx ?_ | refine So_lxa ?_ | refine So_lxO ?_ | refine So_lxaO ?_ | refine So_ln (ll := l) (fun x hx => ?_) | refine So_ln (fun x hx => ?_) | refine So_lna (fun x hx => ?_) | refine So_lnO (fun x hx => ?_) | refine So_lnaO (fun x hx => ?_)) | (refine q_fa ?_; first | refine So_fa ?_ | refine So_fe ?_) | (refine q_ia ?_; first | refine So_ia ?_ | refine So_iaO ?_) | (refine q_bin ?_; first | refine So_lss ?_ | refine So_leq ?_ | refine So_gtr ?_ | refine So_geq ?_ | refine So_eql ?_ | refine So_neq ?_ | refine So_add ?_ | refine So_sub ?_ | refine So_mul ?_ | refine So_quo ?_ | refine So_rem ?_ | refine So_eqb ?_ | refine So_neb ?_ | refine So_lssw ?_ | refine So_eqlw ?_ | refine So_neqw ?_ | refine So_addw ?_ | refine So_shl ?_ | refine So_shr ?_ | refine So_and1 ?_) | (refine q_pk ?_; first | refine So_pt ?_ | refine So_pf ?_ | refine So_pb ?_) | (refine q_un ?_; first | refine So_notd ?_ | refine So_not ?_) | (refine q_len ?_; first | refine So_len ?_ | refine So_len0 ?_ | refine So_lenO ?_) | (refine q_st ?_; first | refine So_st (fun Hb hsb => ?_) | refine So_stO (fun Hb hsb => ?_)) | (refine q_ex ?_; first | refine So_ex ?_) | (refine q_sl ?_; first | refine So_slh ?_ | refine So_sll ?_) | (refine q_f ?_; first | refine So_f ?_ | refine So_ff ?_) | (refine q_bi ?_; first | refine So_min ?_ | refine So_max ?_ | refine So_apq (fun cg gg Hb hgg hsb => ?_) | refine So_apr (fun cg gg Hb hgg hsb => ?_) | refine So_ap0 (fun kb Hb hsb => ?_) | refine So_ap1 (fun Hb hsb => ?_)) | (refine q_rt ?_; first | refine Rt1 ?_ | refine Rt2 ?_ | refine Rt3 ?_ | refine Ro1 ?_ | refine Ro2 ?_ | refine Ro3 ?_ | refine RtC ?_) | refine So_box (fun kb Hb hsb => ?_) | refine So_alloc (fun kb Hb hsb => ?_) | refine So_mf ?_ | refine So_bs (fun kb Hb hsb => ?_) | refine So_bd ?_ | fail)
  · match l, hx with
    | [a], rfl => rfl
    | a :: b :: l', rfl => rw [freshS, if_pos hg]
  have hx0 := hx
  refine Ev_from l.length 1 (by omega) (fun i e h => e 0 = .one (.lst 2 (l.map knotC)) ∧ e 1 = vint d ∧ e 5 = vint i ∧ Hs H h [] ∧ freshS l d = freshS (l.drop (i - 1)) d ∧ ∀ y, l[i - 1]? = some y → y.1 < d) ?_ ⟨rfl, rfl, rfl, hs, rfl, fun y hy => by obtain rfl := uniq hx hy; omega⟩
  clear hs hg
  rintro i e h hi1 hi ⟨e1, e2, e3, hs, hall, hlt⟩
  obtain ⟨e9, rfl⟩ := form3 e1 e2 e3
  clear e1 e2 e3
  repeat' (first | (refine q_ev ?_; first | refine Ev_seq.2 ?_ | refine Ev_block.2 ?_ | refine Ev.scope ?_ | refine Ev_label.2 ?_ | refine Ev_rp ?_ | refine Ev_rs ?_ | refine Ev_rt ?_ | refine Ev_skip.2 ?_ | refine Ev_ret.2 ?_ | refine Ev_exit.2 ?_ | refine Ev_ct ?_ | refine Ev_cf ?_ | refine Ev_cn (fun hg => ?_) (fun hg => ?_) | refine Ev_cd (fun hg => ?_) (fun hg => ?_) | refine Ev_cm (fun hg => ?_) (fun hg => ?_) | refine Ev_cs (fun hg => ?_) (fun hg => ?_)) | (refine q_nt ?_; first | refine So_nilR ?_) | (refine q_nil ?_; first | refine So_nil ?_) | (refine q_g ?_; first | refine So_gy ?_ | refine So_gn ?_ | refine So_gu ?_ | refine So_gTn (fun hg => ?_) (fun hg => ?_) | refine So_gFn (fun hg => ?_) (fun hg => ?_) | refine So_gT (fun hg => ?_) (fun hg => ?_) | refine So_gF (fun hg => ?_) (fun hg => ?_) | refine So_gTm (fun hg => ?_) (fun hg => ?_) | refine So_gFm (fun hg => ?_) (fun hg => ?_) | refine So_gTb (fun hg => ?_) (fun hg => ?_) | refine So_gFb (fun hg => ?_) (fun hg => ?_)) | (refine q_mv ?_; first | refine So_mc ?_ | refine So_ma ?_ | refine So_mv ?_) | (refine q_as ?_; first | refine So_ac ?_ | refine So_aa ?_ | refine So_av ?_) | (refine q_ld ?_; first | refine So_lb ?_ | refine So_la ?_ | refine So_lp ?_ | refine So_lpa ?_ | refine So_lx ?_ | refine So_lxa ?_ | refine So_lxO ?_ | refine So_lxaO ?_ | refine So_lna (ll := l) (j := i - 1) (fun a ha => ?_) | refine So_lna (ll := l) (j := i) (fun b hb => ?_) | refine So_ln (fun x hx => ?_) | refine So_lna (fun x hx => ?_) | refine So_lnO (fun x hx => ?_) | refine So_lnaO (fun x hx => ?_)) | (refine q_fa ?_; first | refine So_fa ?_ | refine So_fe ?_) | (refine q_ia ?_; first | refine So_ia ?_ | refine So_iaO ?_) | (refine q_bin ?_; first | refine So_lss ?_ | refine So_leq ?_ | refine So_gtr ?_ | refine So_geq ?_ | refine So_eql ?_ | refine So_neq ?_ | refine So_add ?_ | refine So_sub ?_ | refine So_mul ?_ | refine So_quo ?_ | refine So_rem ?_ | refine So_eqb ?_ | refine So_neb ?_ | refine So_lssw ?_ | refine So_eqlw ?_ | refine So_neqw ?_ | refine So_addw ?_ | refine So_shl ?_ | refine So_shr ?_ | refine So_and1 ?_) | (refine q_pk ?_; first | refine So_pt ?_ | refine So_pf ?_ | refine So_pb ?_) | (refine q_un ?_; first | refine So_notd ?_ | refine So_not ?_) | (refine q_len ?_; first | refine So_len ?_ | refine So_len0 ?_ | refine So_lenO ?_) | (refine q_st ?_; first | refine So_st (fun Hb hsb => ?_) | refine So_stO (fun Hb hsb => ?_)) | (refine q_ex ?_; first | refine So_ex ?_) | (refine q_sl ?_; first | refine So_slh ?_ | refine So_sll ?_) | (refine q_f ?_; first | refine So_f ?_ | refine So_ff ?_) | (refine q_bi ?_; first | refine So_min ?_ | refine So_max ?_ | refine So_apq (fun cg gg Hb hgg hsb => ?_) | refine So_apr (fun cg gg Hb hgg hsb => ?_) | refine So_ap0 (fun kb Hb hsb => ?_) | refine So_ap1 (fun Hb hsb => ?_)) | (refine q_rt ?_; first | refine Rt1 ?_ | refine Rt2 ?_ | refine Rt3 ?_ | refine Ro1 ?_ | refine Ro2 ?_ | refine Ro3 ?_ | refine RtC ?_) | refine So_box (fun kb Hb hsb => ?_) | refine So_alloc (fun kb Hb hsb => ?_) | refine So_mf ?_ | refine So_bs (fun kb Hb hsb => ?_) | refine So_bd ?_ | fail)
  · have ka := hk _ _ ha
    have kb' := hk _ _ hb
    have hlt' := hlt a ha
    have hab := kb'.2.2.2.2 a (by omega) ha
    have p1 := ka.1
    have p2 := ka.2.1
    have p3 := ka.2.2.1
    have p4 := ka.2.2.2.1
    have q1 := kb'.1
    have q2 := kb'.2.1
    have q3 := kb'.2.2.1
    have q4 := kb'.2.2.2.1
    have hf : fits ((b.2 - a.2) * (d - a.1)) := fits_mul (A := 1000) (B := 120) (by omega) (by omega) (by decide)
    have hf2 : -9223372036854775808 < (b.2 - a.2) * (d - a.1) ∧ (b.2 - a.2) * (d - a.1) < 9223372036854775808 := by
      have : ((b.2 - a.2) * (d - a.1)).natAbs ≤ 1000 * 120 := by rw [Int.natAbs_mul]; exact Nat.mul_le_mul (by omega) (by omega)
      omega
    have hp := tdiv_part (x := b.2 - a.2) (p := d - a.1) (q := b.1 - a.1) (by omega) (by omega) (by omega)
    have hf3 : fits (a.2 + ((b.2 - a.2) * (d - a.1)).tdiv (b.1 - a.1)) := by
      unfold fits
      by_cases h : a.2 ≤ b.2
      · have := hp.1 (by omega); omega
      · have := hp.2 (by omega); omega
    repeat' (first | (refine q_ev ?_; first | refine Ev_seq.2 ?_ | refine Ev_block.2 ?_ | refine Ev.scope ?_ | refine Ev_label.2 ?_ | refine Ev_rp ?_ | refine Ev_rs ?_ | refine Ev_rt ?_ | refine Ev_skip.2 ?_ | refine Ev_ret.2 ?_ | refine Ev_exit.2 ?_ | refine Ev_ct ?_ | refine Ev_cf ?_ | refine Ev_cn (fun hg => ?_) (fun hg => ?_) | refine Ev_cd (fun hg => ?_) (fun hg => ?_) | refine Ev_cm (fun hg => ?_) (fun hg => ?_) | refine Ev_cs (fun hg => ?_) (fun hg => ?_)) | (refine q_nt ?_; first | refine So_nilR ?_) | (refine q_nil ?_; first | refine So_nil ?_) | (refine q_g ?_; first | refine So_gy ?_ | refine So_gn ?_ | refine So_gu ?_ | refine So_gTn (fun hg => ?_) (fun hg => ?_) | refine So_gFn (fun hg => ?_) (fun hg => ?_) | refine So_gT (fun hg => ?_) (fun hg => ?_) | refine So_gF (fun hg => ?_) (fun hg => ?_) | refine So_gTm (fun hg => ?_) (fun hg => ?_) | refine So_gFm (fun hg => ?_) (fun hg => ?_) | refine So_gTb (fun hg => ?_) (fun hg => ?_) | refine So_gFb (fun hg => ?_) (fun hg => ?_)) | (refine q_mv ?_; first | refine So_mc ?_ | refine So_ma ?_ | refine So_mv ?_) | (refine q_as ?_; first | refine So_ac ?_ | refine So_aa ?_ | refine So_av ?_) | (refine q_ld ?_; first | refine So_lb ?_ | refine So_la ?_ | refine So_lp ?_ | refine So_lpa ?_ | refine So_lx ?_ | refine So_lxa ?_ | refine So_lxO ?_ | refine So_lxaO ?_ | refine So_ln (fun x hx => ?_) | refine So_lna (fun x hx => ?_) | refine So_lnO (fun x hx => ?_) | refine So_lnaO (fun x hx => ?_)) | (refine q_fa ?_; first | refine So_fa ?_ | refine So_fe ?_) | (refine q_ia ?_; first | refine So_ia ?_ | refine So_iaO ?_) | (refine q_bin ?_; first | refine So_lss ?_ | refine So_leq ?_ | refine So_gtr ?_ | refine So_geq ?_ | refine So_eql ?_ | refine So_neq ?_ | refine So_add ?_ | refine So_sub ?_ | refine So_mul ?_ | refine So_quo ?_ | refine So_rem ?_ | refine So_eqb ?_ | refine So_neb ?_ | refine So_lssw ?_ | refine So_eqlw ?_ | refine So_neqw ?_ | refine So_addw ?_ | refine So_shl ?_ | refine So_shr ?_ | refine So_and1 ?_) | (refine q_pk ?_; first | refine So_pt ?_ | refine So_pf ?_ | refine So_pb ?_) | (refine q_un ?_; first | refine So_notd ?_ | refine So_not ?_) | (refine q_len ?_; first | refine So_len ?_ | refine So_len0 ?_ | refine So_lenO ?_) | (refine q_st ?_; first | refine So_st (fun Hb hsb => ?_) | refine So_stO (fun Hb hsb => ?_)) | (refine q_ex ?_; first | refine So_ex ?_) | (refine q_sl ?_; first | refine So_slh ?_ | refine So_sll ?_) | (refine q_f ?_; first | refine So_f ?_ | refine So_ff ?_) | (refine q_bi ?_; first | refine So_min ?_ | refine So_max ?_ | refine So_apq (fun cg gg Hb hgg hsb => ?_) | refine So_apr (fun cg gg Hb hgg hsb => ?_) | refine So_ap0 (fun kb Hb hsb => ?_) | refine So_ap1 (fun Hb hsb => ?_)) | (refine q_rt ?_; first | refine Rt1 ?_ | refine Rt2 ?_ | refine Rt3 ?_ | refine Ro1 ?_ | refine Ro2 ?_ | refine Ro3 ?_ | refine RtC ?_) | refine So_box (fun kb Hb hsb => ?_) | refine So_alloc (fun kb Hb hsb => ?_) | refine So_mf ?_ | refine So_bs (fun kb Hb hsb => ?_) | refine So_bd ?_ | fail)
    rw [hall, drop_cons2 (i := i - 1) ha (by rw [show i - 1 + 1 = i by omega]; exact hb), freshS, if_neg (by omega), if_pos hg]
  · refine ⟨by omega, rfl, rfl, vint_s, hsb.sub (List.nil_sublist _), ?_, fun y hy => ?_⟩
    · have hlt' := hlt a ha
      rw [hall, drop_cons2 (i := i - 1) ha (by rw [show i - 1 + 1 = i by omega]; exact hb), freshS, if_neg (by omega), if_neg hg, show i - 1 + 2 = i + 1 by omega, ← drop_at hb, Nat.add_sub_cancel]
    · obtain rfl := uniq hb hy
      omega
  · have hi' : i = l.length := by omega
    subst hi'
    rw [hall, drop_at hx, List.drop_of_length_le (by omega)]
    rfl

theorem fresh_cv {c : Compound} {l1 l2 : List (Int × Int)} (k : Nat) (d : Int) (wet : Bool) (H : AH) (h1 : c.dry[k]? = some l1) (h2 : c.wet[k]? = some l2) (hl1 : RowOk l1) (hl2 : RowOk l2) (hd : -40 ≤ d ∧ d ≤ 80) :
    Cv Try.prog 79 [.agg c.cells, vint k, vint d, vbool wet] H (Cl (· = vint (freshS (if wet then l2 else l1) d))) := by
  have n1 := (List.getElem?_eq_some_iff.1 h1).1
  have n2 := (List.getElem?_eq_some_iff.1 h2).1
  refine Cv_of Try.func79 rfl rfl rfl (fun H1 hs => ?_)
  cases wet
  · have hlen := hl1.1
    have hlen2 := hl1.2.1
    have hk := hl1.2.2
    rw [if_neg (by simp)]
    repeat' (first | (refine q_ev ?_; first | refine Ev_seq.2 ?_ | refine Ev_block.2 ?_ | refine Ev.scope ?_ | refine Ev_label.2 ?_ | refine Ev_rp ?_ | refine Ev_rs ?_ | refine Ev_rt ?_ | refine Ev_skip.2 ?_ | refine Ev_ret.2 ?_ | refine Ev_exit.2 ?_ | refine Ev_ct ?_ | refine Ev_cf ?_ | refine Ev_cn (fun hg => ?_) (fun hg => ?_) | refine Ev_cd (fun hg => ?_) (fun hg => ?_) | refine Ev_cm (fun hg => ?_) (fun hg => ?_) | refine Ev_cs (fun hg => ?_) (fun hg => ?_)) | (refine q_nt ?_; first | refine So_nilR ?_) | (refine q_nil ?_; first | refine So_nil ?_) | (refine q_g ?_; first | refine So_gy ?_ | refine So_gn ?_ | refine So_gu ?_ | refine So_gTn (fun hg => ?_) (fun hg => ?_) | refine So_gFn (fun hg => ?_) (fun hg => ?_) | refine So_gT (fun hg => ?_) (fun hg => ?_) | refine So_gF (fun hg => ?_) (fun hg => ?_) | refine So_gTm (fun hg => ?_) (fun hg => ?_) | refine So_gFm (fun hg => ?_) (fun hg => ?_) | refine So_gTb (fun hg => ?_) (fun hg => ?_) | refine So_gFb (fun hg => ?_) (fun hg => ?_)) | (refine q_mv ?_; first | refine So_mc ?_ | refine So_ma ?_ | refine So_mv ?_) | (refine q_as ?_; first | refine So_ac ?_ | refine So_aa ?_ | refine So_av ?_) | (refine q_ld ?_; first | refine So_lb ?_ | refine So_la ?_ | refine So_lp ?_ | refine So_lpa ?_ | refine So_lx ?_ | refine So_lxa ?_ | refine So_lxO ?_ | refine So_lxaO ?_ | refine So_ln (ll := l1) (fun x hx => ?_) | refine So_ln (fun x hx => ?_) | refine So_lna (fun x hx => ?_) | refine So_lnO (fun x hx => ?_) | refine So_lnaO (fun x hx => ?_)) | (refine q_fa ?_; first | refine So_fa ?_ | refine So_fe ?_) | (refine q_ia ?_; first | refine So_ia ?_ | refine So_iaO ?_) | (refine q_bin ?_; first | refine So_lss ?_ | refine So_leq ?_ | refine So_gtr ?_ | refine So_geq ?_ | refine So_eql ?_ | refine So_neq ?_ | refine So_add ?_ | refine So_sub ?_ | refine So_mul ?_ | refine So_quo ?_ | refine So_rem ?_ | refine So_eqb ?_ | refine So_neb ?_ | refine So_lssw ?_ | refine So_eqlw ?_ | refine So_neqw ?_ | refine So_addw ?_ | refine So_shl ?_ | refine So_shr ?_ | refine So_and1 ?_) | (refine q_pk ?_; first | refine So_pt ?_ | refine So_pf ?_ | refine So_pb ?_) | (refine q_un ?_; first | refine So_notd ?_ | refine So_not ?_) | (refine q_len ?_; first | refine So_len ?_ | refine So_len0 ?_ | refine So_lenO ?_) | (refine q_st ?_; first | refine So_st (fun Hb hsb => ?_) | refine So_stO (fun Hb hsb => ?_)) | (refine q_ex ?_; first | refine So_ex ?_) | (refine q_sl ?_; first | refine So_slh ?_ | refine So_sll ?_) | (refine q_f ?_; first | refine So_f ?_ | refine So_ff ?_) | (refine q_bi ?_; first | refine So_min ?_ | refine So_max ?_ | refine So_apq (fun cg gg Hb hgg hsb => ?_) | refine So_apr (fun cg gg Hb hgg hsb => ?_) | refine So_ap0 (fun kb Hb hsb => ?_) | refine So_ap1 (fun Hb hsb => ?_)) | (refine q_rt ?_; first | refine Rt1 ?_ | refine Rt2 ?_ | refine Rt3 ?_ | refine Ro1 ?_ | refine Ro2 ?_ | refine Ro3 ?_ | refine RtC ?_) | refine So_box (fun kb Hb hsb => ?_) | refine So_alloc (fun kb Hb hsb => ?_) | refine So_mf ?_ | refine So_bs (fun kb Hb hsb => ?_) | refine So_bd ?_ | fail)
    · match l1, hx with
      | [a], rfl => rfl
      | a :: b :: l', rfl => rw [freshS, if_pos hg]
    have hx0 := hx
    refine Ev_from l1.length 1 (by omega) (fun i e h => e 9 = .one (.lst 2 (l1.map knotC)) ∧ e 2 = vint d ∧ e 10 = vint i ∧ Hs H h [] ∧ freshS l1 d = freshS (l1.drop (i - 1)) d ∧ ∀ y, l1[i - 1]? = some y → y.1 < d) ?_ ⟨rfl, rfl, rfl, by first | assumption | exact hsb.sub (List.nil_sublist _), rfl, fun y hy => by obtain rfl := uniq hx hy; omega⟩
    clear hs hg
    rintro i e h hi1 hi ⟨e1, e2, e3, hs, hall, hlt⟩
    obtain ⟨e9, rfl⟩ := form3 e1 e2 e3
    clear e1 e2 e3
    repeat' (first | (refine q_ev ?_; first | refine Ev_seq.2 ?_ | refine Ev_block.2 ?_ | refine Ev.scope ?_ | refine Ev_label.2 ?_ | refine Ev_rp ?_ | refine Ev_rs ?_ | refine Ev_rt ?_ | refine Ev_skip.2 ?_ | refine Ev_ret.2 ?_ | refine Ev_exit.2 ?_ | refine Ev_ct ?_ | refine Ev_cf ?_ | refine Ev_cn (fun hg => ?_) (fun hg => ?_) | refine Ev_cd (fun hg => ?_) (fun hg => ?_) | refine Ev_cm (fun hg => ?_) (fun hg => ?_) | refine Ev_cs (fun hg => ?_) (fun hg => ?_)) | (refine q_nt ?_; first | refine So_nilR ?_) | (refine q_nil ?_; first | refine So_nil ?_) | (refine q_g ?_; first | refine So_gy ?_ | refine So_gn ?_ | refine So_gu ?_ | refine So_gTn (fun hg => ?_) (fun hg => ?_) | refine So_gFn (fun hg => ?_) (fun hg => ?_) | refine So_gT (fun hg => ?_) (fun hg => ?_) | refine So_gF (fun hg => ?_) (fun hg => ?_) | refine So_gTm (fun hg => ?_) (fun hg => ?_) | refine So_gFm (fun hg => ?_) (fun hg => ?_) | refine So_gTb (fun hg => ?_) (fun hg => ?_) | refine So_gFb (fun hg => ?_) (fun hg => ?_)) | (refine q_mv ?_; first | refine So_mc ?_ | refine So_ma ?_ | refine So_mv ?_) | (refine q_as ?_; first | refine So_ac ?_ | refine So_aa ?_ | refine So_av ?_) | (refine q_ld ?_; first | refine So_lb ?_ | refine So_la ?_ | refine So_lp ?_ | refine So_lpa ?_ | refine So_lx ?_ | refine So_lxa ?_ | refine So_lxO ?_ | refine So_lxaO ?_ | refine So_lna (ll := l1) (j := i - 1) (fun a ha => ?_) | refine So_lna (ll := l1) (j := i) (fun b hb => ?_) | refine So_ln (fun x hx => ?_) | refine So_lna (fun x hx => ?_) | refine So_lnO (fun x hx => ?_) | refine So_lnaO (fun x hx => ?_)) | (refine q_fa ?_; first | refine So_fa ?_ | refine So_fe ?_) | (refine q_ia ?_; first | refine So_ia ?_ | refine So_iaO ?_) | (refine q_bin ?_; first | refine So_lss ?_ | refine So_leq ?_ | refine So_gtr ?_ | refine So_geq ?_ | refine So_eql ?_ | refine So_neq ?_ | refine So_add ?_ | refine So_sub ?_ | refine So_mul ?_ | refine So_quo ?_ | refine So_rem ?_ | refine So_eqb ?_ | refine So_neb ?_ | refine So_lssw ?_ | refine So_eqlw ?_ | refine So_neqw ?_ | refine So_addw ?_ | refine So_shl ?_ | refine So_shr ?_ | refine So_and1 ?_) | (refine q_pk ?_; first | refine So_pt ?_ | refine So_pf ?_ | refine So_pb ?_) | (refine q_un ?_; first | refine So_notd ?_ | refine So_not ?_) | (refine q_len ?_; first | refine So_len ?_ | refine So_len0 ?_ | refine So_lenO ?_) | (refine q_st ?_; first | refine So_st (fun Hb hsb => ?_) | refine So_stO (fun Hb hsb => ?_)) | (refine q_ex ?_; first | refine So_ex ?_) | (refine q_sl ?_; first | refine So_slh ?_ | refine So_sll ?_) | (refine q_f ?_; first | refine So_f ?_ | refine So_ff ?_) | (refine q_bi ?_; first | refine So_min ?_ | refine So_max ?_ | refine So_apq (fun cg gg Hb hgg hsb => ?_) | refine So_apr (fun cg gg Hb hgg hsb => ?_) | refine So_ap0 (fun kb Hb hsb => ?_) | refine So_ap1 (fun Hb hsb => ?_)) | (refine q_rt ?_; first | refine Rt1 ?_ | refine Rt2 ?_ | refine Rt3 ?_ | refine Ro1 ?_ | refine Ro2 ?_ | refine Ro3 ?_ | refine RtC ?_) | refine So_box (fun kb Hb hsb => ?_) | refine So_alloc (fun kb Hb hsb => ?_) | refine So_mf ?_ | refine So_bs (fun kb Hb hsb => ?_) | refine So_bd ?_ | fail)
    · have ka := hk _ _ ha
      have kb' := hk _ _ hb
      have hlt' := hlt a ha
      have hab := kb'.2.2.2.2 a (by omega) ha
      have p1 := ka.1
      have p2 := ka.2.1
      have p3 := ka.2.2.1
      have p4 := ka.2.2.2.1
      have q1 := kb'.1
      have q2 := kb'.2.1
      have q3 := kb'.2.2.1
      have q4 := kb'.2.2.2.1
      have hf : fits ((b.2 - a.2) * (d - a.1)) := fits_mul (A := 1000) (B := 120) (by omega) (by omega) (by decide)
      have hf2 : -9223372036854775808 < (b.2 - a.2) * (d - a.1) ∧ (b.2 - a.2) * (d - a.1) < 9223372036854775808 := by
        have : ((b.2 - a.2) * (d - a.1)).natAbs ≤ 1000 * 120 := by rw [Int.natAbs_mul]; exact Nat.mul_le_mul (by omega) (by omega)
        omega
      have hp := tdiv_part (x := b.2 - a.2) (p := d - a.1) (q := b.1 - a.1) (by omega) (by omega) (by omega)
      have hf3 : fits (a.2 + ((b.2 - a.2) * (d - a.1)).tdiv (b.1 - a.1)) := by
        unfold fits
        by_cases h : a.2 ≤ b.2
        · have := hp.1 (by omega); omega
        · have := hp.2 (by omega); omega
      repeat' (first | (refine q_ev ?_; first | refine Ev_seq.2 ?_ | refine Ev_block.2 ?_ | refine Ev.scope ?_ | refine Ev_label.2 ?_ | refine Ev_rp ?_ | refine Ev_rs ?_ | refine Ev_rt ?_ | refine Ev_skip.2 ?_ | refine Ev_ret.2 ?_ | refine Ev_exit.2 ?_ | refine Ev_ct ?_ | refine Ev_cf ?_ | refine Ev_cn (fun hg => ?_) (fun hg => ?_) | refine Ev_cd (fun hg => ?_) (fun hg => ?_) | refine Ev_cm (fun hg => ?_) (fun hg => ?_) | refine Ev_cs (fun hg => ?_) (fun hg => ?_)) | (refine q_nt ?_; first | refine So_nilR ?_) | (refine q_nil ?_; first | refine So_nil ?_) | (refine q_g ?_; first | refine So_gy ?_ | refine So_gn ?_ | refine So_gu ?_ | refine So_gTn (fun hg => ?_) (fun hg => ?_) | refine So_gFn (fun hg => ?_) (fun hg => ?_) | refine So_gT (fun hg => ?_) (fun hg => ?_) | refine So_gF (fun hg => ?_) (fun hg => ?_) | refine So_gTm (fun hg => ?_) (fun hg => ?_) | refine So_gFm (fun hg => ?_) (fun hg => ?_) | refine So_gTb (fun hg => ?_) (fun hg => ?_) | refine So_gFb (fun hg => ?_) (fun hg => ?_)) | (refine q_mv ?_; first | refine So_mc ?_ | refine So_ma ?_ | refine So_mv ?_) | (refine q_as ?_; first | refine So_ac ?_ | refine So_aa ?_ | refine So_av ?_) | (refine q_ld ?_; first | refine So_lb ?_ | refine So_la ?_ | refine So_lp ?_ | refine So_lpa ?_ | refine So_lx ?_ | refine So_lxa ?_ | refine So_lxO ?_ | refine So_lxaO ?_ | refine So_ln (fun x hx => ?_) | refine So_lna (fun x hx => ?_) | refine So_lnO (fun x hx => ?_) | refine So_lnaO (fun x hx => ?_)) | (refine q_fa ?_; first | refine So_fa ?_ | refine So_fe ?_) | (refine q_ia ?_; first | refine So_ia ?_ | refine So_iaO ?_) | (refine q_bin ?_; first | refine So_lss ?_ | refine So_leq ?_ | refine So_gtr ?_ | refine So_geq ?_ | refine So_eql ?_ | refine So_neq ?_ | refine So_add ?_ | refine So_sub ?_ | refine So_mul ?_ | refine So_quo ?_ | refine So_rem ?_ | refine So_eqb ?_ | refine So_neb ?_ | refine So_lssw ?_ | refine So_eqlw ?_ | refine So_neqw ?_ | refine So_addw ?_ | refine So_shl ?_ | refine So_shr ?_ | refine So_and1 ?_) | (refine q_pk ?_; first | refine So_pt ?_ | refine So_pf ?_ | refine So_pb ?_) | (refine q_un ?_; first | refine So_notd ?_ | refine So_not ?_) | (refine q_len ?_; first | refine So_len ?_ | refine So_len0 ?_ | refine So_lenO ?_) | (refine q_st ?_; first | refine So_st (fun Hb hsb => ?_) | refine So_stO (fun Hb hsb => ?_)) | (refine q_ex ?_; first | refine So_ex ?_) | (refine q_sl ?_; first | refine So_slh ?_ | refine So_sll ?_) | (refine q_f ?_; first | refine So_f ?_ | refine So_ff ?_) | (refine q_bi ?_; first | refine So_min ?_ | refine So_max ?_ | refine So_apq (fun cg gg Hb hgg hsb => ?_) | refine So_apr (fun cg gg Hb hgg hsb => ?_) | refine So_ap0 (fun kb Hb hsb => ?_) | refine So_ap1 (fun Hb hsb => ?_)) | (refine q_rt ?_; first | refine Rt1 ?_ | refine Rt2 ?_ | refine Rt3 ?_ | refine Ro1 ?_ | refine Ro2 ?_ | refine Ro3 ?_ | refine RtC ?_) | refine So_box (fun kb Hb hsb => ?_) | refine So_alloc (fun kb Hb hsb => ?_) | refine So_mf ?_ | refine So_bs (fun kb Hb hsb => ?_) | refine So_bd ?_ | fail)
      rw [hall, drop_cons2 (i := i - 1) ha (by rw [show i - 1 + 1 = i by omega]; exact hb), freshS, if_neg (by omega), if_pos hg]
    · refine ⟨by omega, rfl, rfl, vint_s, hsb.sub (List.nil_sublist _), ?_, fun y hy => ?_⟩
      · have hlt' := hlt a ha
        rw [hall, drop_cons2 (i := i - 1) ha (by rw [show i - 1 + 1 = i by omega]; exact hb), freshS, if_neg (by omega), if_neg hg, show i - 1 + 2 = i + 1 by omega, ← drop_at hb, Nat.add_sub_cancel]
      · obtain rfl := uniq hb hy
        omega
    · have hi' : i = l1.length := by omega
      subst hi'
      rw [hall, drop_at hx, List.drop_of_length_le (by omega)]
      rfl
  · have hlen := hl2.1
    have hlen2 := hl2.2.1
    have hk := hl2.2.2
    rw [if_pos rfl]
    repeat' (first | (refine q_ev ?_; first | refine Ev_seq.2 ?_ | refine Ev_block.2 ?_ | refine Ev.scope ?_ | refine Ev_label.2 ?_ | refine Ev_rp ?_ | refine Ev_rs ?_ | refine Ev_rt ?_ | refine Ev_skip.2 ?_ | refine Ev_ret.2 ?_ | refine Ev_exit.2 ?_ | refine Ev_ct ?_ | refine Ev_cf ?_ | refine Ev_cn (fun hg => ?_) (fun hg => ?_) | refine Ev_cd (fun hg => ?_) (fun hg => ?_) | refine Ev_cm (fun hg => ?_) (fun hg => ?_) | refine Ev_cs (fun hg => ?_) (fun hg => ?_)) | (refine q_nt ?_; first | refine So_nilR ?_) | (refine q_nil ?_; first | refine So_nil ?_) | (refine q_g ?_; first | refine So_gy ?_ | refine So_gn ?_ | refine So_gu ?_ | refine So_gTn (fun hg => ?_) (fun hg => ?_) | refine So_gFn (fun hg => ?_) (fun hg => ?_) | refine So_gT (fun hg => ?_) (fun hg => ?_) | refine So_gF (fun hg => ?_) (fun hg => ?_) | refine So_gTm (fun hg => ?_) (fun hg => ?_) | refine So_gFm (fun hg => ?_) (fun hg => ?_) | refine So_gTb (fun hg => ?_) (fun hg => ?_) | refine So_gFb (fun hg => ?_) (fun hg => ?_)) | (refine q_mv ?_; first | refine So_mc ?_ | refine So_ma ?_ | refine So_mv ?_) | (refine q_as ?_; first | refine So_ac ?_ | refine So_aa ?_ | refine So_av ?_) | (refine q_ld ?_; first | refine So_lb ?_ | refine So_la ?_ | refine So_lp ?_ | refine So_lpa ?_ | refine So_lx ?_ | refine So_lxa ?_ | refine So_lxO ?_ | refine So_lxaO ?_ | refine So_ln (ll := l2) (fun x hx => ?_) | refine So_ln (fun x hx => ?_) | refine So_lna (fun x hx => ?_) | refine So_lnO (fun x hx => ?_) | refine So_lnaO (fun x hx => ?_)) | (refine q_fa ?_; first | refine So_fa ?_ | refine So_fe ?_) | (refine q_ia ?_; first | refine So_ia ?_ | refine So_iaO ?_) | (refine q_bin ?_; first | refine So_lss ?_ | refine So_leq ?_ | refine So_gtr ?_ | refine So_geq ?_ | refine So_eql ?_ | refine So_neq ?_ | refine So_add ?_ | refine So_sub ?_ | refine So_mul ?_ | refine So_quo ?_ | refine So_rem ?_ | refine So_eqb ?_ | refine So_neb ?_ | refine So_lssw ?_ | refine So_eqlw ?_ | refine So_neqw ?_ | refine So_addw ?_ | refine So_shl ?_ | refine So_shr ?_ | refine So_and1 ?_) | (refine q_pk ?_; first | refine So_pt ?_ | refine So_pf ?_ | refine So_pb ?_) | (refine q_un ?_; first | refine So_notd ?_ | refine So_not ?_) | (refine q_len ?_; first | refine So_len ?_ | refine So_len0 ?_ | refine So_lenO ?_) | (refine q_st ?_; first | refine So_st (fun Hb hsb => ?_) | refine So_stO (fun Hb hsb => ?_)) | (refine q_ex ?_; first | refine So_ex ?_) | (refine q_sl ?_; first | refine So_slh ?_ | refine So_sll ?_) | (refine q_f ?_; first | refine So_f ?_ | refine So_ff ?_) | (refine q_bi ?_; first | refine So_min ?_ | refine So_max ?_ | refine So_apq (fun cg gg Hb hgg hsb => ?_) | refine So_apr (fun cg gg Hb hgg hsb => ?_) | refine So_ap0 (fun kb Hb hsb => ?_) | refine So_ap1 (fun Hb hsb => ?_)) | (refine q_rt ?_; first | refine Rt1 ?_ | refine Rt2 ?_ | refine Rt3 ?_ | refine Ro1 ?_ | refine Ro2 ?_ | refine Ro3 ?_ | refine RtC ?_) | refine So_box (fun kb Hb hsb => ?_) | refine So_alloc (fun kb Hb hsb => ?_) | refine So_mf ?_ | refine So_bs (fun kb Hb hsb => ?_) | refine So_bd ?_ | fail)
    · match l2, hx with
      | [a], rfl => rfl
      | a :: b :: l', rfl => rw [freshS, if_pos hg]
    have hx0 := hx
    refine Ev_from l2.length 1 (by omega) (fun i e h => e 9 = .one (.lst 2 (l2.map knotC)) ∧ e 2 = vint d ∧ e 10 = vint i ∧ Hs H h [] ∧ freshS l2 d = freshS (l2.drop (i - 1)) d ∧ ∀ y, l2[i - 1]? = some y → y.1 < d) ?_ ⟨rfl, rfl, rfl, by first | assumption | exact hsb.sub (List.nil_sublist _), rfl, fun y hy => by obtain rfl := uniq hx hy; omega⟩
    clear hs hg
    rintro i e h hi1 hi ⟨e1, e2, e3, hs, hall, hlt⟩
    obtain ⟨e9, rfl⟩ := form3 e1 e2 e3
    clear e1 e2 e3
    repeat' (first | (refine q_ev ?_; first | refine Ev_seq.2 ?_ | refine Ev_block.2 ?_ | refine Ev.scope ?_ | refine Ev_label.2 ?_ | refine Ev_rp ?_ | refine Ev_rs ?_ | refine Ev_rt ?_ | refine Ev_skip.2 ?_ | refine Ev_ret.2 ?_ | refine Ev_exit.2 ?_ | refine Ev_ct ?_ | refine Ev_cf ?_ | refine Ev_cn (fun hg => ?_) (fun hg => ?_) | refine Ev_cd (fun hg => ?_) (fun hg => ?_) | refine Ev_cm (fun hg => ?_) (fun hg => ?_) | refine Ev_cs (fun hg => ?_) (fun hg => ?_)) | (refine q_nt ?_; first | refine So_nilR ?_) | (refine q_nil ?_; first | refine So_nil ?_) | (refine q_g ?_; first | refine So_gy ?_ | refine So_gn ?_ | refine So_gu ?_ | refine So_gTn (fun hg => ?_) (fun hg => ?_) | refine So_gFn (fun hg => ?_) (fun hg => ?_) | refine So_gT (fun hg => ?_) (fun hg => ?_) | refine So_gF (fun hg => ?_) (fun hg => ?_) | refine So_gTm (fun hg => ?_) (fun hg => ?_) | refine So_gFm (fun hg => ?_) (fun hg => ?_) | refine So_gTb (fun hg => ?_) (fun hg => ?_) | refine So_gFb (fun hg => ?_) (fun hg => ?_)) | (refine q_mv ?_; first | refine So_mc ?_ | refine So_ma ?_ | refine So_mv ?_) | (refine q_as ?_; first | refine So_ac ?_ | refine So_aa ?_ | refine So_av ?_) | (refine q_ld ?_; first | refine So_lb ?_ | refine So_la ?_ | refine So_lp ?_ | refine So_lpa ?_ | refine So_lx ?_ | refine So_lxa ?_ | refine So_lxO ?_ | refine So_lxaO ?_ | refine So_lna (ll := l2) (j := i - 1) (fun a ha => ?_) | refine So_lna (ll := l2) (j := i) (fun b hb => ?_) | refine So_ln (fun x hx => ?_) | refine So_lna (fun x hx => ?_) | refine So_lnO (fun x hx => ?_) | refine So_lnaO (fun x hx => ?_)) | (refine q_fa ?_; first | refine So_fa ?_ | refine So_fe ?_) | (refine q_ia ?_; first | refine So_ia ?_ | refine So_iaO ?_) | (refine q_bin ?_; first | refine So_lss ?_ | refine So_leq ?_ | refine So_gtr ?_ | refine So_geq ?_ | refine So_eql ?_ | refine So_neq ?_ | refine So_add ?_ | refine So_sub ?_ | refine So_mul ?_ | refine So_quo ?_ | refine So_rem ?_ | refine So_eqb ?_ | refine So_neb ?_ | refine So_lssw ?_ | refine So_eqlw ?_ | refine So_neqw ?_ | refine So_addw ?_ | refine So_shl ?_ | refine So_shr ?_ | refine So_and1 ?_) | (refine q_pk ?_; first | refine So_pt ?_ | refine So_pf ?_ | refine So_pb ?_) | (refine q_un ?_; first | refine So_notd ?_ | refine So_not ?_) | (refine q_len ?_; first | refine So_len ?_ | refine So_len0 ?_ | refine So_lenO ?_) | (refine q_st ?_; first | refine So_st (fun Hb hsb => ?_) | refine So_stO (fun Hb hsb => ?_)) | (refine q_ex ?_; first | refine So_ex ?_) | (refine q_sl ?_; first | refine So_slh ?_ | refine So_sll ?_) | (refine q_f ?_; first | refine So_f ?_ | refine So_ff ?_) | (refine q_bi ?_; first | refine So_min ?_ | refine So_max ?_ | refine So_apq (fun cg gg Hb hgg hsb => ?_) | refine So_apr (fun cg gg Hb hgg hsb => ?_) | refine So_ap0 (fun kb Hb hsb => ?_) | refine So_ap1 (fun Hb hsb => ?_)) | (refine q_rt ?_; first | refine Rt1 ?_ | refine Rt2 ?_ | refine Rt3 ?_ | refine Ro1 ?_ | refine Ro2 ?_ | refine Ro3 ?_ | refine RtC ?_) | refine So_box (fun kb Hb hsb => ?_) | refine So_alloc (fun kb Hb hsb => ?_) | refine So_mf ?_ | refine So_bs (fun kb Hb hsb => ?_) | refine So_bd ?_ | fail)
    · have ka := hk _ _ ha
      have kb' := hk _ _ hb
      have hlt' := hlt a ha
      have hab := kb'.2.2.2.2 a (by omega) ha
      have p1 := ka.1
      have p2 := ka.2.1
      have p3 := ka.2.2.1
      have p4 := ka.2.2.2.1
      have q1 := kb'.1
      have q2 := kb'.2.1
      have q3 := kb'.2.2.1
      have q4 := kb'.2.2.2.1
      have hf : fits ((b.2 - a.2) * (d - a.1)) := fits_mul (A := 1000) (B := 120) (by omega) (by omega) (by decide)
      have hf2 : -9223372036854775808 < (b.2 - a.2) * (d - a.1) ∧ (b.2 - a.2) * (d - a.1) < 9223372036854775808 := by
        have : ((b.2 - a.2) * (d - a.1)).natAbs ≤ 1000 * 120 := by rw [Int.natAbs_mul]; exact Nat.mul_le_mul (by omega) (by omega)
        omega
      have hp := tdiv_part (x := b.2 - a.2) (p := d - a.1) (q := b.1 - a.1) (by omega) (by omega) (by omega)
      have hf3 : fits (a.2 + ((b.2 - a.2) * (d - a.1)).tdiv (b.1 - a.1)) := by
        unfold fits
        by_cases h : a.2 ≤ b.2
        · have := hp.1 (by omega); omega
        · have := hp.2 (by omega); omega
      repeat' (first | (refine q_ev ?_; first | refine Ev_seq.2 ?_ | refine Ev_block.2 ?_ | refine Ev.scope ?_ | refine Ev_label.2 ?_ | refine Ev_rp ?_ | refine Ev_rs ?_ | refine Ev_rt ?_ | refine Ev_skip.2 ?_ | refine Ev_ret.2 ?_ | refine Ev_exit.2 ?_ | refine Ev_ct ?_ | refine Ev_cf ?_ | refine Ev_cn (fun hg => ?_) (fun hg => ?_) | refine Ev_cd (fun hg => ?_) (fun hg => ?_) | refine Ev_cm (fun hg => ?_) (fun hg => ?_) | refine Ev_cs (fun hg => ?_) (fun hg => ?_)) | (refine q_nt ?_; first | refine So_nilR ?_) | (refine q_nil ?_; first | refine So_nil ?_) | (refine q_g ?_; first | refine So_gy ?_ | refine So_gn ?_ | refine So_gu ?_ | refine So_gTn (fun hg => ?_) (fun hg => ?_) | refine So_gFn (fun hg => ?_) (fun hg => ?_) | refine So_gT (fun hg => ?_) (fun hg => ?_) | refine So_gF (fun hg => ?_) (fun hg => ?_) | refine So_gTm (fun hg => ?_) (fun hg => ?_) | refine So_gFm (fun hg => ?_) (fun hg => ?_) | refine So_gTb (fun hg => ?_) (fun hg => ?_) | refine So_gFb (fun hg => ?_) (fun hg => ?_)) | (refine q_mv ?_; first | refine So_mc ?_ | refine So_ma ?_ | refine So_mv ?_) | (refine q_as ?_; first | refine So_ac ?_ | refine So_aa ?_ | refine So_av ?_) | (refine q_ld ?_; first | refine So_lb ?_ | refine So_la ?_ | refine So_lp ?_ | refine So_lpa ?_ | refine So_lx ?_ | refine So_lxa ?_ | refine So_lxO ?_ | refine So_lxaO ?_ | refine So_ln (fun x hx => ?_) | refine So_lna (fun x hx => ?_) | refine So_lnO (fun x hx => ?_) | refine So_lnaO (fun x hx => ?_)) | (refine q_fa ?_; first | refine So_fa ?_ | refine So_fe ?_) | (refine q_ia ?_; first | refine So_ia ?_ | refine So_iaO ?_) | (refine q_bin ?_; first | refine So_lss ?_ | refine So_leq ?_ | refine So_gtr ?_ | refine So_geq ?_ | refine So_eql ?_ | refine So_neq ?_ | refine So_add ?_ | refine So_sub ?_ | refine So_mul ?_ | refine So_quo ?_ | refine So_rem ?_ | refine So_eqb ?_ | refine So_neb ?_ | refine So_lssw ?_ | refine So_eqlw ?_ | refine So_neqw ?_ | refine So_addw ?_ | refine So_shl ?_ | refine So_shr ?_ | refine So_and1 ?_) | (refine q_pk ?_; first | refine So_pt ?_ | refine So_pf ?_ | refine So_pb ?_) | (refine q_un ?_; first | refine So_notd ?_ | refine So_not ?_) | (refine q_len ?_; first | refine So_len ?_ | refine So_len0 ?_ | refine So_lenO ?_) | (refine q_st ?_; first | refine So_st (fun Hb hsb => ?_) | refine So_stO (fun Hb hsb => ?_)) | (refine q_ex ?_; first | refine So_ex ?_) | (refine q_sl ?_; first | refine So_slh ?_ | refine So_sll ?_) | (refine q_f ?_; first | refine So_f ?_ | refine So_ff ?_) | (refine q_bi ?_; first | refine So_min ?_ | refine So_max ?_ | refine So_apq (fun cg gg Hb hgg hsb => ?_) | refine So_apr (fun cg gg Hb hgg hsb => ?_) | refine So_ap0 (fun kb Hb hsb => ?_) | refine So_ap1 (fun Hb hsb => ?_)) | (refine q_rt ?_; first | refine Rt1 ?_ | refine Rt2 ?_ | refine Rt3 ?_ | refine Ro1 ?_ | refine Ro2 ?_ | refine Ro3 ?_ | refine RtC ?_) | refine So_box (fun kb Hb hsb => ?_) | refine So_alloc (fun kb Hb hsb => ?_) | refine So_mf ?_ | refine So_bs (fun kb Hb hsb => ?_) | refine So_bd ?_ | fail)
      rw [hall, drop_cons2 (i := i - 1) ha (by rw [show i - 1 + 1 = i by omega]; exact hb), freshS, if_neg (by omega), if_pos hg]
    · refine ⟨by omega, rfl, rfl, vint_s, hsb.sub (List.nil_sublist _), ?_, fun y hy => ?_⟩
      · have hlt' := hlt a ha
        rw [hall, drop_cons2 (i := i - 1) ha (by rw [show i - 1 + 1 = i by omega]; exact hb), freshS, if_neg (by omega), if_neg hg, show i - 1 + 2 = i + 1 by omega, ← drop_at hb, Nat.add_sub_cancel]
      · obtain rfl := uniq hb hy
        omega
    · have hi' : i = l2.length := by omega
      subst hi'
      rw [hall, drop_at hx, List.drop_of_length_le (by omega)]
      rfl
def rowAt (c : Compound) (s : Int) (wet : Bool) : List (Int × Int) := ((if wet then c.wet else c.dry)[s.toNat]?).getD []
def lost (g loss wear : Int) : Int := (g * loss * wear).tdiv 1000000000
def gripS (c : Compound) (s d : Int) (wet : Bool) (wear : Int) : Int := freshS (rowAt c s wet) d - lost (freshS (rowAt c s wet) d) c.loss wear
theorem CompOk.row {c : Compound} (hc : CompOk c) {s : Int} (h : 0 ≤ s ∧ s < c.dry.length) (wet : Bool) : RowOk (rowAt c s wet) := by
  unfold rowAt
  cases wet
  · rw [if_neg (by simp), List.getElem?_eq_getElem (by omega)]
    exact hc.2.2.1.2 _ (List.getElem_mem _)
  · have := hc.2.2.2.1.1
    rw [if_pos rfl, List.getElem?_eq_getElem (by omega)]
    exact hc.2.2.2.1.2 _ (List.getElem_mem _)
theorem lost_bounds {g loss wear : Int} (hg : 0 ≤ g ∧ g ≤ 1000) (hl : 0 ≤ loss ∧ loss ≤ 1000) (hw : 0 ≤ wear ∧ wear ≤ 1000000) : (0 ≤ g * loss ∧ g * loss ≤ 1000000) ∧ (0 ≤ g * loss * wear ∧ g * loss * wear ≤ 1000000000000) ∧ 0 ≤ lost g loss wear ∧ lost g loss wear ≤ g := by
  have h1 : 0 ≤ g * loss := Int.mul_nonneg hg.1 hl.1
  have h2 : g * loss ≤ g * 1000 := Int.mul_le_mul_of_nonneg_left hl.2 hg.1
  have h3 : 0 ≤ g * loss * wear := Int.mul_nonneg h1 hw.1
  have h4 : g * loss * wear ≤ g * 1000 * 1000000 := Int.mul_le_mul h2 hw.2 hw.1 (by omega)
  refine ⟨⟨h1, by omega⟩, ⟨h3, by omega⟩, Int.tdiv_nonneg h3 (by omega), ?_⟩
  unfold lost
  rw [Int.tdiv_eq_ediv_of_nonneg h3]
  omega
theorem lost_mono {g loss w v : Int} (hg : 0 ≤ g) (hl : 0 ≤ loss) (hw : 0 ≤ w) (h : w ≤ v) : lost g loss w ≤ lost g loss v := by
  have h1 : 0 ≤ g * loss := Int.mul_nonneg hg hl
  have h3 : 0 ≤ g * loss * w := Int.mul_nonneg h1 hw
  have h4 : g * loss * w ≤ g * loss * v := Int.mul_le_mul_of_nonneg_left h h1
  unfold lost
  rw [Int.tdiv_eq_ediv_of_nonneg h3, Int.tdiv_eq_ediv_of_nonneg (by omega)]
  omega
theorem CompOk.grip {c : Compound} (hc : CompOk c) {s d wear : Int} {wet : Bool} (h : 0 ≤ s ∧ s < c.dry.length) (hw : 0 ≤ wear ∧ wear ≤ 1000000) : 0 ≤ gripS c s d wet wear ∧ gripS c s d wet wear ≤ 1000 := by
  have h1 := (hc.row h wet).fresh d
  have h2 := lost_bounds h1 hc.2.2.2.2.2.2 hw
  unfold gripS
  omega
theorem CompOk.grip_mono {c : Compound} (hc : CompOk c) {s d w v : Int} {wet : Bool} (h : 0 ≤ s ∧ s < c.dry.length) (hw : 0 ≤ w) (hv : w ≤ v) : gripS c s d wet v ≤ gripS c s d wet w := by
  have h1 := (hc.row h wet).fresh d
  have h2 := lost_mono h1.1 hc.2.2.2.2.2.2.1 hw hv
  unfold gripS
  omega

theorem grip_cv {c : Compound} (s d : Int) (wet : Bool) (wear : Int) (H : AH) (hc : CompOk c) (hs : 0 ≤ s ∧ s < c.dry.length) (hd : -40 ≤ d ∧ d ≤ 80) (hw : 0 ≤ wear ∧ wear ≤ 1000000) :
    Cv Try.prog 48 [.agg c.cells, vint s, vint d, vbool wet, vint wear] H (Cl (· = vint (gripS c s d wet wear))) := by
  have hf := (hc.row hs wet).fresh d
  have hb := lost_bounds hf hc.2.2.2.2.2.2 hw
  obtain ⟨⟨b1, b2⟩, ⟨b3, b4⟩, b5, b6⟩ := hb
  have hs' := hs
  obtain ⟨k, rfl⟩ := Int.eq_ofNat_of_zero_le hs.1
  have r1 := hc.row hs' false
  have r2 := hc.row hs' true
  have hwl := hc.2.2.2.1.1
  obtain ⟨l1, g1⟩ : ∃ l1, c.dry[k]? = some l1 := ⟨_, List.getElem?_eq_getElem (by omega)⟩
  obtain ⟨l2, g2⟩ : ∃ l2, c.wet[k]? = some l2 := ⟨_, List.getElem?_eq_getElem (by omega)⟩
  have e1 : rowAt c k false = l1 := by simp [rowAt, g1]
  have e2 : rowAt c k true = l2 := by simp [rowAt, g2]
  rw [e1] at r1
  rw [e2] at r2
  have e3 : rowAt c k wet = if wet then l2 else l1 := by cases wet <;> simp [e1, e2]
  refine Cv_of Try.func48 rfl rfl rfl (fun H1 hs => ?_)
  unfold gripS
  unfold lost at b5 b6 ⊢
  rw [e3] at hf b1 b2 b3 b4 b5 b6 ⊢
  repeat' (first | (refine q_ev ?_; first | refine Ev_seq.2 ?_ | refine Ev_block.2 ?_ | refine Ev.scope ?_ | refine Ev_label.2 ?_ | refine Ev_rp ?_ | refine Ev_rs ?_ | refine Ev_rt ?_ | refine Ev_skip.2 ?_ | refine Ev_ret.2 ?_ | refine Ev_exit.2 ?_ | refine Ev_ct ?_ | refine Ev_cf ?_ | refine Ev_cn (fun hg => ?_) (fun hg => ?_) | refine Ev_cd (fun hg => ?_) (fun hg => ?_) | refine Ev_cm (fun hg => ?_) (fun hg => ?_) | refine Ev_cs (fun hg => ?_) (fun hg => ?_)) | (refine q_nt ?_; first | refine So_nilR ?_) | (refine q_nil ?_; first | refine So_nil ?_) | (refine q_g ?_; first | refine So_gy ?_ | refine So_gn ?_ | refine So_gu ?_ | refine So_gTn (fun hg => ?_) (fun hg => ?_) | refine So_gFn (fun hg => ?_) (fun hg => ?_) | refine So_gT (fun hg => ?_) (fun hg => ?_) | refine So_gF (fun hg => ?_) (fun hg => ?_) | refine So_gTm (fun hg => ?_) (fun hg => ?_) | refine So_gFm (fun hg => ?_) (fun hg => ?_) | refine So_gTb (fun hg => ?_) (fun hg => ?_) | refine So_gFb (fun hg => ?_) (fun hg => ?_)) | (refine q_mv ?_; first | refine So_mc ?_ | refine So_ma ?_ | refine So_mv ?_) | (refine q_as ?_; first | refine So_ac ?_ | refine So_aa ?_ | refine So_av ?_) | (refine q_ld ?_; first | refine So_lb ?_ | refine So_la ?_ | refine So_lp ?_ | refine So_lpa ?_ | refine So_lx ?_ | refine So_lxa ?_ | refine So_lxO ?_ | refine So_lxaO ?_ | refine So_ln (fun x hx => ?_) | refine So_lna (fun x hx => ?_) | refine So_lnO (fun x hx => ?_) | refine So_lnaO (fun x hx => ?_)) | (refine q_fa ?_; first | refine So_fa ?_ | refine So_fe ?_) | (refine q_ia ?_; first | refine So_ia ?_ | refine So_iaO ?_) | (refine q_cl ?_; first | refine So_fn (fresh_cv k d wet _ g1 g2 r1 r2 hd) ?_) | (refine q_bin ?_; first | refine So_lss ?_ | refine So_leq ?_ | refine So_gtr ?_ | refine So_geq ?_ | refine So_eql ?_ | refine So_neq ?_ | refine So_add ?_ | refine So_sub ?_ | refine So_mul ?_ | refine So_quo ?_ | refine So_rem ?_ | refine So_eqb ?_ | refine So_neb ?_ | refine So_lssw ?_ | refine So_eqlw ?_ | refine So_neqw ?_ | refine So_addw ?_ | refine So_shl ?_ | refine So_shr ?_ | refine So_and1 ?_) | (refine q_pk ?_; first | refine So_pt ?_ | refine So_pf ?_ | refine So_pb ?_) | (refine q_un ?_; first | refine So_notd ?_ | refine So_not ?_) | (refine q_len ?_; first | refine So_len ?_ | refine So_len0 ?_ | refine So_lenO ?_) | (refine q_st ?_; first | refine So_st (fun Hb hsb => ?_) | refine So_stO (fun Hb hsb => ?_)) | (refine q_ex ?_; first | refine So_ex ?_) | (refine q_sl ?_; first | refine So_slh ?_ | refine So_sll ?_) | (refine q_f ?_; first | refine So_f ?_ | refine So_ff ?_) | (refine q_bi ?_; first | refine So_min ?_ | refine So_max ?_ | refine So_apq (fun cg gg Hb hgg hsb => ?_) | refine So_apr (fun cg gg Hb hgg hsb => ?_) | refine So_ap0 (fun kb Hb hsb => ?_) | refine So_ap1 (fun Hb hsb => ?_)) | (refine q_rt ?_; first | refine Rt1 ?_ | refine Rt2 ?_ | refine Rt3 ?_ | refine Ro1 ?_ | refine Ro2 ?_ | refine Ro3 ?_ | refine RtC ?_) | refine So_box (fun kb Hb hsb => ?_) | refine So_alloc (fun kb Hb hsb => ?_) | refine So_mf ?_ | refine So_bs (fun kb Hb hsb => ?_) | refine So_bd ?_ | fail)
  rfl
theorem rgrip_cv {c : Compound} (s d : Int) (wet : Bool) (wear : Int) (H : AH) (hc : CompOk c) (hs : 0 ≤ s ∧ s < c.dry.length) (hd : -40 ≤ d ∧ d ≤ 80) (hw : 0 ≤ wear ∧ wear ≤ 1000000) :
    Cv Try.prog 19 [.agg c.cells, vint s, vint d, vbool wet, vint wear] H (Cl (· = vint (gripS c s d wet wear))) := by
  have hf := (hc.row hs wet).fresh d
  have hb := lost_bounds hf hc.2.2.2.2.2.2 hw
  obtain ⟨⟨b1, b2⟩, ⟨b3, b4⟩, b5, b6⟩ := hb
  have hs' := hs
  obtain ⟨k, rfl⟩ := Int.eq_ofNat_of_zero_le hs.1
  have r1 := hc.row hs' false
  have r2 := hc.row hs' true
  have hwl := hc.2.2.2.1.1
  obtain ⟨l1, g1⟩ : ∃ l1, c.dry[k]? = some l1 := ⟨_, List.getElem?_eq_getElem (by omega)⟩
  obtain ⟨l2, g2⟩ : ∃ l2, c.wet[k]? = some l2 := ⟨_, List.getElem?_eq_getElem (by omega)⟩
  have e1 : rowAt c k false = l1 := by simp [rowAt, g1]
  have e2 : rowAt c k true = l2 := by simp [rowAt, g2]
  rw [e1] at r1
  rw [e2] at r2
  refine Cv_of Try.func19 rfl rfl rfl (fun H1 hs => ?_)
  unfold gripS
  unfold lost at b5 b6 ⊢
  cases wet
  · rw [e1] at hf b1 b2 b3 b4 b5 b6 ⊢
    repeat' (first | (refine q_ev ?_; first | refine Ev_seq.2 ?_ | refine Ev_block.2 ?_ | refine Ev.scope ?_ | refine Ev_label.2 ?_ | refine Ev_rp ?_ | refine Ev_rs ?_ | refine Ev_rt ?_ | refine Ev_skip.2 ?_ | refine Ev_ret.2 ?_ | refine Ev_exit.2 ?_ | refine Ev_ct ?_ | refine Ev_cf ?_ | refine Ev_cn (fun hg => ?_) (fun hg => ?_) | refine Ev_cd (fun hg => ?_) (fun hg => ?_) | refine Ev_cm (fun hg => ?_) (fun hg => ?_) | refine Ev_cs (fun hg => ?_) (fun hg => ?_)) | (refine q_nt ?_; first | refine So_nilR ?_) | (refine q_nil ?_; first | refine So_nil ?_) | (refine q_g ?_; first | refine So_gy ?_ | refine So_gn ?_ | refine So_gu ?_ | refine So_gTn (fun hg => ?_) (fun hg => ?_) | refine So_gFn (fun hg => ?_) (fun hg => ?_) | refine So_gT (fun hg => ?_) (fun hg => ?_) | refine So_gF (fun hg => ?_) (fun hg => ?_) | refine So_gTm (fun hg => ?_) (fun hg => ?_) | refine So_gFm (fun hg => ?_) (fun hg => ?_) | refine So_gTb (fun hg => ?_) (fun hg => ?_) | refine So_gFb (fun hg => ?_) (fun hg => ?_)) | (refine q_mv ?_; first | refine So_mc ?_ | refine So_ma ?_ | refine So_mv ?_) | (refine q_as ?_; first | refine So_ac ?_ | refine So_aa ?_ | refine So_av ?_) | (refine q_ld ?_; first | refine So_lb ?_ | refine So_la ?_ | refine So_lp ?_ | refine So_lpa ?_ | refine So_lx ?_ | refine So_lxa ?_ | refine So_lxO ?_ | refine So_lxaO ?_ | refine So_lx (he := g1) ?_ | refine So_ln (fun x hx => ?_) | refine So_lna (fun x hx => ?_) | refine So_lnO (fun x hx => ?_) | refine So_lnaO (fun x hx => ?_)) | (refine q_fa ?_; first | refine So_fa ?_ | refine So_fe ?_) | (refine q_ia ?_; first | refine So_ia ?_ | refine So_iaO ?_) | (refine q_cl ?_; first | refine So_fn (rfresh_cv d _ r1 hd) ?_) | (refine q_bin ?_; first | refine So_lss ?_ | refine So_leq ?_ | refine So_gtr ?_ | refine So_geq ?_ | refine So_eql ?_ | refine So_neq ?_ | refine So_add ?_ | refine So_sub ?_ | refine So_mul ?_ | refine So_quo ?_ | refine So_rem ?_ | refine So_eqb ?_ | refine So_neb ?_ | refine So_lssw ?_ | refine So_eqlw ?_ | refine So_neqw ?_ | refine So_addw ?_ | refine So_shl ?_ | refine So_shr ?_ | refine So_and1 ?_) | (refine q_pk ?_; first | refine So_pt ?_ | refine So_pf ?_ | refine So_pb ?_) | (refine q_un ?_; first | refine So_notd ?_ | refine So_not ?_) | (refine q_len ?_; first | refine So_len ?_ | refine So_len0 ?_ | refine So_lenO ?_) | (refine q_st ?_; first | refine So_st (fun Hb hsb => ?_) | refine So_stO (fun Hb hsb => ?_)) | (refine q_ex ?_; first | refine So_ex ?_) | (refine q_sl ?_; first | refine So_slh ?_ | refine So_sll ?_) | (refine q_f ?_; first | refine So_f ?_ | refine So_ff ?_) | (refine q_bi ?_; first | refine So_min ?_ | refine So_max ?_ | refine So_apq (fun cg gg Hb hgg hsb => ?_) | refine So_apr (fun cg gg Hb hgg hsb => ?_) | refine So_ap0 (fun kb Hb hsb => ?_) | refine So_ap1 (fun Hb hsb => ?_)) | (refine q_rt ?_; first | refine Rt1 ?_ | refine Rt2 ?_ | refine Rt3 ?_ | refine Ro1 ?_ | refine Ro2 ?_ | refine Ro3 ?_ | refine RtC ?_) | refine So_box (fun kb Hb hsb => ?_) | refine So_alloc (fun kb Hb hsb => ?_) | refine So_mf ?_ | refine So_bs (fun kb Hb hsb => ?_) | refine So_bd ?_ | fail)
    rfl
  · rw [e2] at hf b1 b2 b3 b4 b5 b6 ⊢
    repeat' (first | (refine q_ev ?_; first | refine Ev_seq.2 ?_ | refine Ev_block.2 ?_ | refine Ev.scope ?_ | refine Ev_label.2 ?_ | refine Ev_rp ?_ | refine Ev_rs ?_ | refine Ev_rt ?_ | refine Ev_skip.2 ?_ | refine Ev_ret.2 ?_ | refine Ev_exit.2 ?_ | refine Ev_ct ?_ | refine Ev_cf ?_ | refine Ev_cn (fun hg => ?_) (fun hg => ?_) | refine Ev_cd (fun hg => ?_) (fun hg => ?_) | refine Ev_cm (fun hg => ?_) (fun hg => ?_) | refine Ev_cs (fun hg => ?_) (fun hg => ?_)) | (refine q_nt ?_; first | refine So_nilR ?_) | (refine q_nil ?_; first | refine So_nil ?_) | (refine q_g ?_; first | refine So_gy ?_ | refine So_gn ?_ | refine So_gu ?_ | refine So_gTn (fun hg => ?_) (fun hg => ?_) | refine So_gFn (fun hg => ?_) (fun hg => ?_) | refine So_gT (fun hg => ?_) (fun hg => ?_) | refine So_gF (fun hg => ?_) (fun hg => ?_) | refine So_gTm (fun hg => ?_) (fun hg => ?_) | refine So_gFm (fun hg => ?_) (fun hg => ?_) | refine So_gTb (fun hg => ?_) (fun hg => ?_) | refine So_gFb (fun hg => ?_) (fun hg => ?_)) | (refine q_mv ?_; first | refine So_mc ?_ | refine So_ma ?_ | refine So_mv ?_) | (refine q_as ?_; first | refine So_ac ?_ | refine So_aa ?_ | refine So_av ?_) | (refine q_ld ?_; first | refine So_lb ?_ | refine So_la ?_ | refine So_lp ?_ | refine So_lpa ?_ | refine So_lx ?_ | refine So_lxa ?_ | refine So_lxO ?_ | refine So_lxaO ?_ | refine So_lx (he := g2) ?_ | refine So_ln (fun x hx => ?_) | refine So_lna (fun x hx => ?_) | refine So_lnO (fun x hx => ?_) | refine So_lnaO (fun x hx => ?_)) | (refine q_fa ?_; first | refine So_fa ?_ | refine So_fe ?_) | (refine q_ia ?_; first | refine So_ia ?_ | refine So_iaO ?_) | (refine q_cl ?_; first | refine So_fn (rfresh_cv d _ r2 hd) ?_) | (refine q_bin ?_; first | refine So_lss ?_ | refine So_leq ?_ | refine So_gtr ?_ | refine So_geq ?_ | refine So_eql ?_ | refine So_neq ?_ | refine So_add ?_ | refine So_sub ?_ | refine So_mul ?_ | refine So_quo ?_ | refine So_rem ?_ | refine So_eqb ?_ | refine So_neb ?_ | refine So_lssw ?_ | refine So_eqlw ?_ | refine So_neqw ?_ | refine So_addw ?_ | refine So_shl ?_ | refine So_shr ?_ | refine So_and1 ?_) | (refine q_pk ?_; first | refine So_pt ?_ | refine So_pf ?_ | refine So_pb ?_) | (refine q_un ?_; first | refine So_notd ?_ | refine So_not ?_) | (refine q_len ?_; first | refine So_len ?_ | refine So_len0 ?_ | refine So_lenO ?_) | (refine q_st ?_; first | refine So_st (fun Hb hsb => ?_) | refine So_stO (fun Hb hsb => ?_)) | (refine q_ex ?_; first | refine So_ex ?_) | (refine q_sl ?_; first | refine So_slh ?_ | refine So_sll ?_) | (refine q_f ?_; first | refine So_f ?_ | refine So_ff ?_) | (refine q_bi ?_; first | refine So_min ?_ | refine So_max ?_ | refine So_apq (fun cg gg Hb hgg hsb => ?_) | refine So_apr (fun cg gg Hb hgg hsb => ?_) | refine So_ap0 (fun kb Hb hsb => ?_) | refine So_ap1 (fun Hb hsb => ?_)) | (refine q_rt ?_; first | refine Rt1 ?_ | refine Rt2 ?_ | refine Rt3 ?_ | refine Ro1 ?_ | refine Ro2 ?_ | refine Ro3 ?_ | refine RtC ?_) | refine So_box (fun kb Hb hsb => ?_) | refine So_alloc (fun kb Hb hsb => ?_) | refine So_mf ?_ | refine So_bs (fun kb Hb hsb => ?_) | refine So_bd ?_ | fail)
    rfl
/-- What car.Grip answers. -/
noncomputable def GripS (c : Compound) (s d : Int) (wet : Bool) (wear : Int) : AV := @ite _ (CompOk c ∧ 0 ≤ s ∧ s < c.dry.length ∧ -40 ≤ d ∧ d ≤ 80 ∧ 0 ≤ wear ∧ wear ≤ 1000000) (Classical.propDecidable _) (.tup [vint (gripS c s d wet wear), vint 0]) (.tup [vint 0, vint 2])
theorem Grip_cv {c : Compound} (s d : Int) (wet : Bool) (wear : Int) (H : AH) (hc : Sized c) :
    Cv Try.prog 17 [.agg c.cells, vint s, vint d, vbool wet, vint wear] H (Cl (· = GripS c s d wet wear)) := by
  refine Cv_of Try.func17 rfl rfl rfl (fun H1 hs => ?_)
  have hl := hc.1
  repeat' (first | (refine q_ev ?_; first | refine Ev_seq.2 ?_ | refine Ev_block.2 ?_ | refine Ev.scope ?_ | refine Ev_label.2 ?_ | refine Ev_rp ?_ | refine Ev_rs ?_ | refine Ev_rt ?_ | refine Ev_skip.2 ?_ | refine Ev_ret.2 ?_ | refine Ev_exit.2 ?_ | refine Ev_ct ?_ | refine Ev_cf ?_ | refine Ev_cn (fun hg => ?_) (fun hg => ?_) | refine Ev_cd (fun hg => ?_) (fun hg => ?_) | refine Ev_cm (fun hg => ?_) (fun hg => ?_) | refine Ev_cs (fun hg => ?_) (fun hg => ?_)) | (refine q_nt ?_; first | refine So_nilR ?_) | (refine q_nil ?_; first | refine So_nil ?_) | (refine q_g ?_; first | refine So_gy ?_ | refine So_gn ?_ | refine So_gu ?_ | refine So_gTn (fun hg => ?_) (fun hg => ?_) | refine So_gFn (fun hg => ?_) (fun hg => ?_) | refine So_gT (fun hg => ?_) (fun hg => ?_) | refine So_gF (fun hg => ?_) (fun hg => ?_) | refine So_gTm (fun hg => ?_) (fun hg => ?_) | refine So_gFm (fun hg => ?_) (fun hg => ?_) | refine So_gTb (fun hg => ?_) (fun hg => ?_) | refine So_gFb (fun hg => ?_) (fun hg => ?_)) | (refine q_mv ?_; first | refine So_mc ?_ | refine So_ma ?_ | refine So_mv ?_) | (refine q_as ?_; first | refine So_ac ?_ | refine So_aa ?_ | refine So_av ?_) | (refine q_ld ?_; first | refine So_lb ?_ | refine So_la ?_ | refine So_lp ?_ | refine So_lpa ?_ | refine So_lx ?_ | refine So_lxa ?_ | refine So_lxO ?_ | refine So_lxaO ?_ | refine So_ln (fun x hx => ?_) | refine So_lna (fun x hx => ?_) | refine So_lnO (fun x hx => ?_) | refine So_lnaO (fun x hx => ?_)) | (refine q_fa ?_; first | refine So_fa ?_ | refine So_fe ?_) | (refine q_ia ?_; first | refine So_ia ?_ | refine So_iaO ?_) | (refine q_cl ?_; first | refine So_fn (compound_cv _ hc) ?_ | refine So_fn (within_cv _ _ _ _) ?_ | refine So_fn (grip_cv _ _ _ _ _ (by assumption) (by omega) (by omega) (by omega)) ?_) | (refine q_bin ?_; first | refine So_lss ?_ | refine So_leq ?_ | refine So_gtr ?_ | refine So_geq ?_ | refine So_eql ?_ | refine So_neq ?_ | refine So_add ?_ | refine So_sub ?_ | refine So_mul ?_ | refine So_quo ?_ | refine So_rem ?_ | refine So_eqb ?_ | refine So_neb ?_ | refine So_lssw ?_ | refine So_eqlw ?_ | refine So_neqw ?_ | refine So_addw ?_ | refine So_shl ?_ | refine So_shr ?_ | refine So_and1 ?_) | (refine q_pk ?_; first | refine So_pt ?_ | refine So_pf ?_ | refine So_pb ?_) | (refine q_un ?_; first | refine So_notd ?_ | refine So_not ?_) | (refine q_len ?_; first | refine So_len ?_ | refine So_len0 ?_ | refine So_lenO ?_) | (refine q_st ?_; first | refine So_st (fun Hb hsb => ?_) | refine So_stO (fun Hb hsb => ?_)) | (refine q_ex ?_; first | refine So_ex ?_) | (refine q_sl ?_; first | refine So_slh ?_ | refine So_sll ?_) | (refine q_f ?_; first | refine So_f ?_ | refine So_ff ?_) | (refine q_bi ?_; first | refine So_min ?_ | refine So_max ?_ | refine So_apq (fun cg gg Hb hgg hsb => ?_) | refine So_apr (fun cg gg Hb hgg hsb => ?_) | refine So_ap0 (fun kb Hb hsb => ?_) | refine So_ap1 (fun Hb hsb => ?_)) | (refine q_rt ?_; first | refine Rt1 ?_ | refine Rt2 ?_ | refine Rt3 ?_ | refine Ro1 ?_ | refine Ro2 ?_ | refine Ro3 ?_ | refine RtC ?_) | refine So_box (fun kb Hb hsb => ?_) | refine So_alloc (fun kb Hb hsb => ?_) | refine So_mf ?_ | refine So_bs (fun kb Hb hsb => ?_) | refine So_bd ?_ | fail)
  · unfold GripS; rw [if_neg (fun h => hg h.1)]
  · unfold GripS; rw [if_neg (fun h => hg (by omega))]
  · unfold GripS; rw [if_neg (fun h => hg (by omega))]
  · unfold GripS; rw [if_neg (fun h => hg (by omega))]
  · rename_i g1 g2 g3
    unfold GripS; rw [if_pos ⟨g1, by omega, by omega, by omega, by omega, by omega, by omega⟩]
def GripArg (c : Compound) (s d wear : Int) : Prop := CompOk c ∧ 0 ≤ s ∧ s < c.dry.length ∧ -40 ≤ d ∧ d ≤ 80 ∧ 0 ≤ wear ∧ wear ≤ 1000000
theorem Grip_ok {c : Compound} (s d : Int) (wet : Bool) (wear : Int) (H : AH) (hc : Sized c) (h : GripArg c s d wear) : Cv Try.prog 17 [.agg c.cells, vint s, vint d, vbool wet, vint wear] H (Cl (· = .tup [vint (gripS c s d wet wear), vint 0])) := by
  have := Grip_cv s d wet wear H hc
  unfold GripArg at h
  unfold GripS at this
  rw [if_pos h] at this
  exact this
theorem Grip_bad {c : Compound} (s d : Int) (wet : Bool) (wear : Int) (H : AH) (hc : Sized c) (h : ¬GripArg c s d wear) : Cv Try.prog 17 [.agg c.cells, vint s, vint d, vbool wet, vint wear] H (Cl (· = .tup [vint 0, vint 2])) := by
  have := Grip_cv s d wet wear H hc
  unfold GripArg at h
  unfold GripS at this
  rw [if_neg h] at this
  exact this
end Go.AM.Car
