/- Regions that draw their order and write: that the order asked for holds. -/
import Derived.Test.YthcdhdgpokikfaaAmWk4
namespace Go.AM
def AllOk (bits : Array Nat) (es : List (Nat × Evt)) (j : Nat) (d : Evt) : Prop := ∀ e ∈ es, e.2.conf d = false ∨ (bits.getD j 0).testBit e.1 = true
theorem all_nil {bits : Array Nat} {j : Nat} {d : Evt} : AllOk bits [] j d := fun _ h => by simp at h
theorem all_ad {bits : Array Nat} {es : List (Nat × Evt)} {j : Nat} {d : Evt} {i : Nat} {e : Evt} (h : AllOk bits es j d) (h2 : e.conf d = false ∨ (bits.getD j 0).testBit i = true) : AllOk bits (ad .tr es i e) j d := by
  intro x hx
  unfold ad at hx
  simp only at hx
  split at hx
  · rcases List.mem_append.1 hx with hx | hx
    · exact h x hx
    · simp at hx; subst hx; exact h2
  · exact h x hx
theorem ok_nil {bits : Array Nat} : ordOk bits [] = true := rfl
theorem ok_snoc {bits : Array Nat} {d : Nat × Evt} : ∀ {es : List (Nat × Evt)}, ordOk bits es = true → AllOk bits es d.1 d.2 → ordOk bits (es ++ [d]) = true := by
  intro es
  induction es with
  | nil => intro _ _; rfl
  | cons e es ih =>
    intro h ha
    simp only [ordOk, List.cons_append, Bool.and_eq_true, List.all_eq_true, Bool.or_eq_true, Bool.not_eq_true'] at h ⊢
    refine ⟨fun x hx => ?_, ih h.2 (fun y hy => ha y (by simp [hy]))⟩
    rcases List.mem_append.1 hx with hx | hx
    · exact h.1 x hx
    · simp at hx; subst hx; exact ha e (by simp)
theorem ok_ad {bits : Array Nat} {es : List (Nat × Evt)} {i : Nat} {e : Evt} (h : ordOk bits es = true) (h2 : AllOk bits es i e) : ordOk bits (ad .tr es i e) = true := by
  unfold ad
  simp only
  split
  · exact ok_snoc h h2
  · exact h
theorem conf_rr {a b : List Nat} : (rdE a).conf (rdE b) = false := by simp [Evt.conf]
theorem conf_rc {a : List Nat} : (rdE a).conf clE = false := by simp [Evt.conf]
theorem conf_cr {a : List Nat} : clE.conf (rdE a) = false := by simp [Evt.conf]
theorem conf_cc : clE.conf clE = false := by simp [Evt.conf]
theorem conf_cw {l : List Nat} {h : Nat} : clE.conf (wrE l h true) = false := by simp [Evt.conf]
theorem conf_wr {l b : List Nat} {h : Nat} {f : Bool} (hn : h ∉ b) : (wrE l h f).conf (rdE b) = false := by simp [Evt.conf, hn]
theorem conf_rw {a l : List Nat} {h : Nat} {f : Bool} (hn : h ∉ a) : (rdE a).conf (wrE l h f) = false := by simp [Evt.conf, hn]
theorem conf_ww {a b : List Nat} {h g : Nat} {f f' : Bool} (h1 : h ∉ b) (h2 : g ≠ h) (h3 : g ∉ a) : (wrE a h f).conf (wrE b g f') = false := by simp [Evt.conf, h1, h2, h3]
theorem Sl.ni {H0 H : AH} {l : List (Nat × Blk)} {sz : Nat} {c : Cell} {rows : List (List Cell)} {k : Nat} {b : Blk} (hc : Sl H0 sz c rows) (hs : Hs H0 H l) (hm : (k, b) ∈ l) : k ∉ refsC c := fun h => by
  have h1 := hc.refs k h
  have h2 := (hs.ge _ hm).1
  simp only at h2
  omega
theorem Bx.ne {H0 H : AH} {l : List (Nat × Blk)} {cs : List Cell} {k h : Nat} {b : Blk} (hb : Bx H0 h cs) (hs : Hs H0 H l) (hm : (k, b) ∈ l) : k ∉ [h] := fun e => by
  have h1 := hb.lt
  have h2 := (hs.ge _ hm).1
  simp only at h2
  simp at e
  omega
theorem ni_nil {k : Nat} : k ∉ ([] : List Nat) := by simp
theorem ni_one {k h : Nat} (hn : k ≠ h) : k ∉ [h] := by simpa using hn
section
variable {P : Program} {ops : Array Oper} {m : Md} {i : Nat} {r : List Oper} {env : Env} {H : AH} {es : List (Nat × Evt)} {K : Env → AH → List (Nat × Evt) → Prop} {dst : Option Tmp} {ty : TypeId} {pos : String} {after : Array Edge} {op : Op}
/-! What comes next: to choose among the rules. -/
theorem q_mv {x : Operand} (k : So (⟨dst, .move x, ty, pos, after, none⟩ :: r) P ops m i env H es K) : So (⟨dst, .move x, ty, pos, after, none⟩ :: r) P ops m i env H es K := k
theorem q_as {x : Operand} (k : So (⟨dst, .assign x, ty, pos, after, none⟩ :: r) P ops m i env H es K) : So (⟨dst, .assign x, ty, pos, after, none⟩ :: r) P ops m i env H es K := k
theorem q_ld {t : TypeId} {x : Operand} (k : So (⟨dst, .load t x, ty, pos, after, none⟩ :: r) P ops m i env H es K) : So (⟨dst, .load t x, ty, pos, after, none⟩ :: r) P ops m i env H es K := k
theorem q_fa {s : TypeId} {x : Operand} {f : Nat} (k : So (⟨dst, .fieldAddr s x f, ty, pos, after, none⟩ :: r) P ops m i env H es K) : So (⟨dst, .fieldAddr s x f, ty, pos, after, none⟩ :: r) P ops m i env H es K := k
theorem q_f {s : TypeId} {x : Operand} {f : Nat} (k : So (⟨dst, .field s x f, ty, pos, after, none⟩ :: r) P ops m i env H es K) : So (⟨dst, .field s x f, ty, pos, after, none⟩ :: r) P ops m i env H es K := k
theorem q_len {a : Array Operand} {t : Array TypeId} (k : So (⟨dst, .call { callee := .builtin .len, args := a, argTypes := t }, ty, pos, after, none⟩ :: r) P ops m i env H es K) : So (⟨dst, .call { callee := .builtin .len, args := a, argTypes := t }, ty, pos, after, none⟩ :: r) P ops m i env H es K := k
theorem q_bi {b : Builtin} {a : Array Operand} {t : Array TypeId} (k : So (⟨dst, .call { callee := .builtin b, args := a, argTypes := t }, ty, pos, after, none⟩ :: r) P ops m i env H es K) : So (⟨dst, .call { callee := .builtin b, args := a, argTypes := t }, ty, pos, after, none⟩ :: r) P ops m i env H es K := k
theorem q_cl {f : Operand} {a : Array Operand} {t : Array TypeId} (k : So (⟨dst, .call { callee := .value f, args := a, argTypes := t }, ty, pos, after, none⟩ :: r) P ops m i env H es K) : So (⟨dst, .call { callee := .value f, args := a, argTypes := t }, ty, pos, after, none⟩ :: r) P ops m i env H es K := k
theorem q_ia {t : TypeId} {x y : Operand} (k : So (⟨dst, .indexAddr t x y, ty, pos, after, none⟩ :: r) P ops m i env H es K) : So (⟨dst, .indexAddr t x y, ty, pos, after, none⟩ :: r) P ops m i env H es K := k
theorem q_bin {b : BinOp} {t t1 : TypeId} {x y : Operand} (k : So (⟨dst, .binOp b t x y t1, ty, pos, after, none⟩ :: r) P ops m i env H es K) : So (⟨dst, .binOp b t x y t1, ty, pos, after, none⟩ :: r) P ops m i env H es K := k
theorem q_pk {c x y : Operand} (k : So (⟨dst, .pick c x y, ty, pos, after, none⟩ :: r) P ops m i env H es K) : So (⟨dst, .pick c x y, ty, pos, after, none⟩ :: r) P ops m i env H es K := k
theorem q_un {u : UnOp} {t : TypeId} {x : Operand} (k : So (⟨dst, .unOp u t x, ty, pos, after, none⟩ :: r) P ops m i env H es K) : So (⟨dst, .unOp u t x, ty, pos, after, none⟩ :: r) P ops m i env H es K := k
theorem q_ex {x : Operand} {j : Nat} (k : So (⟨dst, .extract x j, ty, pos, after, none⟩ :: r) P ops m i env H es K) : So (⟨dst, .extract x j, ty, pos, after, none⟩ :: r) P ops m i env H es K := k
theorem q_st {t : TypeId} {x y : Operand} (k : So (⟨dst, .store t x y, ty, pos, after, none⟩ :: r) P ops m i env H es K) : So (⟨dst, .store t x y, ty, pos, after, none⟩ :: r) P ops m i env H es K := k
theorem q_nt (k : So [] P ops .tr i env H es K) : So [] P ops .tr i env H es K := k
theorem q_nil (k : So [] P ops m i env H es K) : So [] P ops m i env H es K := k
theorem q_g {g : Nat × Bool} (k : So (⟨dst, op, ty, pos, after, some g⟩ :: r) P ops m i env H es K) : So (⟨dst, op, ty, pos, after, some g⟩ :: r) P ops m i env H es K := k
theorem q_ev {c : Code} {Q : AX → Env → AH → Prop} (k : Ev P c Q env H) : Ev P c Q env H := k
theorem q_rt {fn : Func} {H0 : AH} {R : AV → Prop} {x : AX} (k : Rt P fn H0 R x env H) : Rt P fn H0 R x env H := k
end
section
variable {P : Program} {ops : Array Oper} {i : Nat} {env : Env} {H H0 : AH} {es : List (Nat × Evt)} {l : List (Nat × Blk)}
theorem So_nilR {bits : Array Nat} {Q : Env → AH → Prop} (h : Q env H) (hs : Hs H0 H l := by assumption)
    (hb : l.Pairwise (fun a b => b.1 < a.1) → ordOk bits es = true := by
      intro hso
      simp only [List.pairwise_cons, List.mem_cons, List.not_mem_nil, false_or, or_false, forall_eq_or_imp, forall_eq, false_imp_iff, implies_true, and_true, List.Pairwise.nil] at hso
      repeat' (first
        | with_reducible apply ok_ad | with_reducible apply all_ad | with_reducible apply ok_nil | with_reducible apply all_nil
        | (with_reducible apply Or.inl; first | with_reducible apply conf_rr | with_reducible apply conf_rc | with_reducible apply conf_cr | with_reducible apply conf_cc | with_reducible apply conf_cw)
        | (with_reducible apply Or.inr; decide +kernel)
        | (with_reducible apply Or.inl; first | with_reducible apply conf_wr | with_reducible apply conf_rw | with_reducible apply conf_ww)
        | apply ni_nil | (with_reducible apply ni_one; omega) | omega
        | exact Sl.ni (by assumption) (by assumption) (by first | exact .head _ | exact .tail _ (.head _) | exact .tail _ (.tail _ (.head _)) | exact .tail _ (.tail _ (.tail _ (.head _))) | exact .tail _ (.tail _ (.tail _ (.tail _ (.head _)))))
        | exact Bx.ne (by assumption) (by assumption) (by first | exact .head _ | exact .tail _ (.head _) | exact .tail _ (.tail _ (.head _)) | exact .tail _ (.tail _ (.tail _ (.head _))) | exact .tail _ (.tail _ (.tail _ (.tail _ (.head _))))))) :
    So [] P ops .tr i env H es (fun e h es => ordOk bits es = true ∧ Q e h) := ⟨⟨hb hs.srt, h⟩⟩
end
end Go.AM
