/- Slices of slices; appending; making. -/
import Derived.Test.YthcdhdgpokikfaaAmWk5
namespace Go.AM
section
variable {P : Program} {ops : Array Oper} {m : Md} {i : Nat} {r : List Oper} {env : Env} {H H0 : AH} {es : List (Nat × Evt)} {K : Env → AH → List (Nat × Evt) → Prop} {dst : Option Tmp} {ty : TypeId} {pos : String} {after : Array Edge} {op : Op} {l : List (Nat × Blk)}
theorem bound_n {i : Int} {j d : Nat} (h : IsN i j) : boundA (some (vint i)) d = some j := by
  have := h.eq
  simp only [boundA, intOf?]
  rw [if_pos (by omega)]
  congr
  omega
section
variable {α : Type} {t e : TypeId} {sz : Nat} {f : α → List Cell} {ll : List α} {x : Operand}
theorem So_slice {lo hi : Option Operand} {a b : Nat} [I : UL P t (.slice e)] [J : SZ P e sz] (hx : evo env x = .one (.lst sz (ll.map f))) (hlo : boundA (lo.map (evo env)) 0 = some a) (hhi : boundA (hi.map (evo env)) ll.length = some b) (hab : a ≤ b ∧ b ≤ ll.length)
    (k : So r P ops m (i + 1) (putE env dst (.one (.lst sz (((ll.drop a).take (b - a)).map f)))) H es K) : So (⟨dst, .slice t x lo hi none, ty, pos, after, none⟩ :: r) P ops m i env H es K := by
  refine So_pure rfl (by intros; simp) ?_ (by simp [looks, hx, refsV, refsC]) k
  simp only [aop, I.eq, hx, AV.cell, J.eq, sliceA, lenOf, rowsOf, if_true, List.length_map, hlo, hhi, if_pos hab, Option.map_none]
  simp [List.map_drop, List.map_take]
theorem So_slh {hi : Operand} {b : Nat} {n : Int} [I : UL P t (.slice e)] [J : SZ P e sz] (k : So r P ops m (i + 1) (putE env dst (.one (.lst sz ((ll.take b).map f)))) H es K) (hx : evo env x = .one (.lst sz (ll.map f)) := by rfl) (hh : evo env hi = vint n := by rfl) (hn : IsN n b := by first | exact .z | exact .o | exact .c | exact .s | exact .t (by omega)) (hb : b ≤ ll.length := by omega) :
    So (⟨dst, .slice t x none (some hi) none, ty, pos, after, none⟩ :: r) P ops m i env H es K :=
  So_slice (a := 0) (b := b) hx rfl (by rw [Option.map_some, hh]; exact bound_n hn) ⟨Nat.zero_le _, hb⟩ (by rw [List.drop_zero, Nat.sub_zero]; exact k)
theorem So_sll {lo : Operand} {a : Nat} {n : Int} [I : UL P t (.slice e)] [J : SZ P e sz] (k : So r P ops m (i + 1) (putE env dst (.one (.lst sz ((ll.drop a).map f)))) H es K) (hx : evo env x = .one (.lst sz (ll.map f)) := by rfl) (hh : evo env lo = vint n := by rfl) (hn : IsN n a := by first | exact .z | exact .o | exact .c | exact .s | exact .t (by omega)) (ha : a ≤ ll.length := by omega) :
    So (⟨dst, .slice t x (some lo) none none, ty, pos, after, none⟩ :: r) P ops m i env H es K :=
  So_slice (a := a) (b := ll.length) hx (by rw [Option.map_some, hh]; exact bound_n hn) rfl ⟨ha, Nat.le_refl _⟩ (by rw [List.take_of_length_le (by simp)]; exact k)
theorem q_sl {y z w : Option Operand} (k : So (⟨dst, .slice t x y z w, ty, pos, after, none⟩ :: r) P ops m i env H es K) : So (⟨dst, .slice t x y z w, ty, pos, after, none⟩ :: r) P ops m i env H es K := k
end

/-! Slices of one's own: the block holds a list's elements. -/
section
variable {α : Type} {t : TypeId} {x : Operand} {f : α → List Cell} {ll : List α} {e : α} {sz j o n k0 : Nat}
theorem own_rw {H0 H : AH} {l : List (Nat × Blk)} {h sz n : Nat} {f : α → List Cell} {ll : List α} (hs : Hs H0 H l) (hm : (h, .arr sz (ll.map f)) ∈ l) (hn : ll.length = n) : Rw H sz (.sl h n 0 n) (ll.map f) := (Sl.arr hs hm (by rw [List.length_map]; exact hn)).toRw
theorem own_sl {H0 H : AH} {l : List (Nat × Blk)} {h sz n : Nat} {f : α → List Cell} {ll : List α} (hs : Hs H0 H l) (hm : (h, .arr sz (ll.map f)) ∈ l) (hn : ll.length = n) : Sl H sz (.sl h n 0 n) (ll.map f) := Sl.arr hs hm (by rw [List.length_map]; exact hn)
theorem So_lenO {te : TypeId} {h : Nat} [I : UL P t (.slice te)] (k : So r P ops m (i + 1) (putE env dst (vint n)) H (ad m es i (rdE [h])) K) (hx : evo env x = .one (.sl h n 0 n) := by rfl) :
    So (⟨dst, .call { callee := .builtin .len, args := #[x], argTypes := #[t] }, ty, pos, after, none⟩ :: r) P ops m i env H es K := by
  refine So_rd rfl (by intros; simp) (v := vint n) (l := [h]) ?_ (by simp [looks, hx, refsV, refsC]) k
  have h1 : (#[t] : Array TypeId)[0]?.bind P.underlying = some (.slice te) := I.eq
  simp only [aop, aopBuiltin, hx, AV.cell, lenOf, h1]
theorem So_iaO {ix : Operand} {te : TypeId} {h : Nat} {a : Int} [I : UL P t (.slice te)] [J : SZ P te sz] (k : So r P ops m (i + 1) (putE env dst (.one (.ep (.sl h n 0 n) sz j 0))) H (ad m es i (rdE [h])) K) (hx : evo env x = .one (.sl h n 0 n) := by rfl) (hi : evo env ix = vint a := by rfl) (hj : IsN a j := by first | exact .z | exact .o | exact .c | exact .s | exact .p .c (by omega) | exact .t (by omega)) (hs : Hs H0 H l := by assumption) (hm : (h, .arr sz (ll.map f)) ∈ l := by first | exact .head _ | exact .tail _ (.head _) | exact .tail _ (.tail _ (.head _)) | exact .tail _ (.tail _ (.tail _ (.head _))) | exact .tail _ (.tail _ (.tail _ (.tail _ (.head _)))) | exact .tail _ (.tail _ (.tail _ (.tail _ (.tail _ (.head _)))))) (hn : ll.length = n := by first | assumption | omega | (simp only [List.length_set, List.length_append, List.length_replicate, List.length_cons, List.length_nil]; omega)) (h0 : j < n := by omega) :
    So (⟨dst, .indexAddr t x ix, ty, pos, after, none⟩ :: r) P ops m i env H es K :=
  So_ia (rows := ll.map f) k hx hi hj (own_rw hs hm hn) (by rw [List.length_map]; omega)
theorem So_lxO {h : Nat} {c : Cell} [I : AG P t false] (k : So r P ops m (i + 1) (putE env dst (.one c)) H (ad m es i (rdE [h])) K) (hx : evo env x = .one (.ep (.sl h n 0 n) sz j o) := by rfl) (hs : Hs H0 H l := by assumption) (hm : (h, .arr sz (ll.map f)) ∈ l := by first | exact .head _ | exact .tail _ (.head _) | exact .tail _ (.tail _ (.head _)) | exact .tail _ (.tail _ (.tail _ (.head _))) | exact .tail _ (.tail _ (.tail _ (.tail _ (.head _)))) | exact .tail _ (.tail _ (.tail _ (.tail _ (.tail _ (.head _)))))) (hn : ll.length = n := by first | assumption | omega | (simp only [List.length_set, List.length_append, List.length_replicate, List.length_cons, List.length_nil]; omega)) (he : ll[j]? = some e := by assumption) (hc : (f e)[o]? = some c := by rfl) :
    So (⟨dst, .load t x, ty, pos, after, none⟩ :: r) P ops m i env H es K := So_lx k hx (own_rw hs hm hn) he hc
theorem So_lnO {h : Nat} {g : α → Cell} [I : AG P t false] (k : ∀ e, ll[j]? = some e → So r P ops m (i + 1) (putE env dst (.one (g e))) H (ad m es i (rdE [h])) K) (hx : evo env x = .one (.ep (.sl h n 0 n) sz j o) := by rfl) (hs : Hs H0 H l := by assumption) (hm : (h, .arr sz (ll.map f)) ∈ l := by first | exact .head _ | exact .tail _ (.head _) | exact .tail _ (.tail _ (.head _)) | exact .tail _ (.tail _ (.tail _ (.head _))) | exact .tail _ (.tail _ (.tail _ (.tail _ (.head _)))) | exact .tail _ (.tail _ (.tail _ (.tail _ (.tail _ (.head _)))))) (hn : ll.length = n := by first | assumption | omega | (simp only [List.length_set, List.length_append, List.length_replicate, List.length_cons, List.length_nil]; omega)) (hlt : j < ll.length := by omega) (hc : ∀ e, (f e)[o]? = some (g e) := by exact fun _ => rfl) :
    So (⟨dst, .load t x, ty, pos, after, none⟩ :: r) P ops m i env H es K := So_ln k hx (own_rw hs hm hn) hlt hc
theorem So_lxaO {h w : Nat} [I : AG P t true] [J : SZ P t w] (k : So r P ops m (i + 1) (putE env dst (.agg (((f e).drop o).take w))) H (ad m es i (rdE [h])) K) (hx : evo env x = .one (.ep (.sl h n 0 n) sz j o) := by rfl) (hs : Hs H0 H l := by assumption) (hm : (h, .arr sz (ll.map f)) ∈ l := by first | exact .head _ | exact .tail _ (.head _) | exact .tail _ (.tail _ (.head _)) | exact .tail _ (.tail _ (.tail _ (.head _))) | exact .tail _ (.tail _ (.tail _ (.tail _ (.head _)))) | exact .tail _ (.tail _ (.tail _ (.tail _ (.tail _ (.head _)))))) (hn : ll.length = n := by first | assumption | omega | (simp only [List.length_set, List.length_append, List.length_replicate, List.length_cons, List.length_nil]; omega)) (he : ll[j]? = some e := by assumption) (hl : ∀ e, o + w ≤ (f e).length := by exact fun _ => Nat.le_of_ble_eq_true rfl) :
    So (⟨dst, .load t x, ty, pos, after, none⟩ :: r) P ops m i env H es K := So_lxa k hx (own_rw hs hm hn) he hl
theorem So_lnaO {h w : Nat} [I : AG P t true] [J : SZ P t w] (k : ∀ e, ll[j]? = some e → So r P ops m (i + 1) (putE env dst (.agg (((f e).drop o).take w))) H (ad m es i (rdE [h])) K) (hx : evo env x = .one (.ep (.sl h n 0 n) sz j o) := by rfl) (hs : Hs H0 H l := by assumption) (hm : (h, .arr sz (ll.map f)) ∈ l := by first | exact .head _ | exact .tail _ (.head _) | exact .tail _ (.tail _ (.head _)) | exact .tail _ (.tail _ (.tail _ (.head _))) | exact .tail _ (.tail _ (.tail _ (.tail _ (.head _)))) | exact .tail _ (.tail _ (.tail _ (.tail _ (.tail _ (.head _)))))) (hn : ll.length = n := by first | assumption | omega | (simp only [List.length_set, List.length_append, List.length_replicate, List.length_cons, List.length_nil]; omega)) (hlt : j < ll.length := by omega) (hl : ∀ e, o + w ≤ (f e).length := by exact fun _ => Nat.le_of_ble_eq_true rfl) :
    So (⟨dst, .load t x, ty, pos, after, none⟩ :: r) P ops m i env H es K := So_lna k hx (own_rw hs hm hn) hlt hl
/-- A whole element is written. -/
theorem So_stO {y : Operand} {h : Nat} {e' : α} {l' : List (Nat × Blk)} [I : SZ P t sz] (k : ∀ H', Hs H0 H' l' → So r P ops m (i + 1) (putE env dst .und) H' (ad m es i (wrE [h] h false)) K) (hm : m ≠ .st := by decide) (hx : evo env x = .one (.ep (.sl h n 0 n) sz j 0) := by rfl) (hs : Hs H0 H l := by assumption) (hb : Put l h (.arr sz (ll.map f)) (.arr sz ((ll.set j e').map f)) l' := by first | exact .head | exact .tail .head | exact .tail (.tail .head) | exact .tail (.tail (.tail .head)) | exact .tail (.tail (.tail (.tail .head))) | exact .tail (.tail (.tail (.tail (.tail .head))))) (hy : (evo env y).cells = some (f e') := by rfl) (hn : ll.length = n := by first | assumption | omega | (simp only [List.length_set, List.length_append, List.length_replicate, List.length_cons, List.length_nil]; omega)) (hj : j < ll.length := by omega) (hf : ∀ e, (f e).length = sz := by exact fun _ => rfl) :
    So (⟨dst, .store t x y, ty, pos, after, none⟩ :: r) P ops m i env H es K := by
  have hput : putCells (f (ll[j]'hj)) 0 (f e') = f e' := by
    simp [putCells, hf]
  refine So_se (rows := ll.map f) (row := f (ll[j]'hj)) (w := sz) (hf e') hm hx hy hs (by rw [List.getElem?_map, List.getElem?_eq_getElem hj]; rfl) (by rw [List.length_map]; exact hn) (by rw [hf, hf]; omega) ?_ k
  rw [hput, ← List.map_set]
  exact hb
theorem So_ms {te : TypeId} {a : Int} {z : List Cell} {e0 : α} [I : EL P t te sz] [J : ZC P te z] {x' : Operand} (k : ∀ h H', Hs H0 H' ((h, .arr sz ((List.replicate n e0).map f)) :: l) → So r P ops m (i + 1) (putE env dst (.one (.sl h n 0 n))) H' (ad m es i (wrE [] h true)) K) (hm : m ≠ .st := by decide) (hx : evo env x = vint a := by rfl) (hx' : evo env x' = vint a := by rfl) (hn : IsN a n := by first | exact .z | exact .o | exact .c | exact .t (by omega)) (hz : f e0 = z := by rfl) (hs : Hs H0 H l := by assumption) (hb : n ≤ 34359738367 := by omega) :
    So (⟨dst, .makeSlice t x x', ty, pos, after, none⟩ :: r) P ops m i env H es K := by
  obtain ⟨i1, z1, h1, h2, h3, h4, h5, h6, h7, h8⟩ := I.eq
  have hzz : z1 = z := by have := J.eq; rw [h4] at this; injection this
  subst hzz
  have hna := hn.eq
  have hbytes : (i1.bytes : Int) * a ≤ 140737488355328 := by
    rw [hna]
    have : i1.bytes * n ≤ 4096 * 34359738367 := Nat.mul_le_mul h8 hb
    have h9 : ((i1.bytes * n : Nat) : Int) ≤ 140737488355328 := by omega
    rw [Int.natCast_mul] at h9
    exact h9
  refine So_aop rfl (by intros; simp) (v := .one (.sl H.nx n 0 n)) (d := some (H.nx, .arr sz ((List.replicate n e0).map f))) ?_ (fun h => absurd h hm) (by
    have := k H.nx _ (hs.new (.arr sz ((List.replicate n e0).map f)))
    simpa [evt, looks] using this)
  simp only [aop, h1, hx, hx', intOf?, h2, h4]
  rw [if_pos ⟨by omega, by omega, by omega, by omega, hbytes, by omega⟩]
  have : a.toNat = n := by omega
  rw [this, h5, List.map_replicate, hz]
end
end
end Go.AM
