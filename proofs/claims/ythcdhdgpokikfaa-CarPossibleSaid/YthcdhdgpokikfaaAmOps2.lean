/- Writes. -/
import Derived.Test.YthcdhdgpokikfaaAmOps1
namespace Go.AM

theorem put_get {α : Type} {l v : List α} {o : Nat} (ho : o + v.length ≤ l.length) (i : Nat) :
    (l.take o ++ v ++ l.drop (o + v.length))[i]? = if i < o then l[i]? else if i < o + v.length then v[i - o]? else l[i]? := by
  have h1 : (l.take o).length = o := by simp; omega
  by_cases hi : i < o
  · rw [if_pos hi, List.append_assoc, List.getElem?_append_left (by omega), List.getElem?_take, if_pos hi]
  · rw [if_neg hi]
    by_cases hi2 : i < o + v.length
    · rw [if_pos hi2, List.getElem?_append_left (by simp; omega), List.getElem?_append_right (by omega), h1]
    · rw [if_neg hi2, List.getElem?_append_right (by simp; omega), List.getElem?_drop]
      congr 1
      simp
      omega
theorem put_length {α : Type} {l v : List α} {o : Nat} (ho : o + v.length ≤ l.length) : (l.take o ++ v ++ l.drop (o + v.length)).length = l.length := by
  simp; omega
theorem putCells_get {l v : List Cell} {o : Nat} (ho : o + v.length ≤ l.length) (i : Nat) :
    (putCells l o v)[i]? = if i < o then l[i]? else if i < o + v.length then v[i - o]? else l[i]? := put_get ho i
theorem putCells_length {l v : List Cell} {o : Nat} (ho : o + v.length ≤ l.length) : (putCells l o v).length = l.length := put_length ho

def putVals (C : Array Value) (o : Nat) (us : List Value) : Array Value := (C.toList.take o ++ us ++ C.toList.drop (o + us.length)).toArray
theorem putVals_size {C : Array Value} {o : Nat} {us : List Value} (ho : o + us.length ≤ C.size) : (putVals C o us).size = C.size := by
  have := put_length (l := C.toList) (v := us) (o := o) (by simpa using ho)
  simpa [putVals] using this
theorem putVals_getD {C : Array Value} {o : Nat} {us : List Value} (ho : o + us.length ≤ C.size) (i : Nat) :
    (putVals C o us).getD i undef = if i < o then C.getD i undef else if i < o + us.length then us.getD (i - o) undef else C.getD i undef := by
  have h := put_get (l := C.toList) (v := us) (o := o) (by simpa using ho) i
  have e : ∀ (A : Array Value), A.getD i undef = (A[i]?).getD undef := fun A => Array.getD_eq_getD_getElem? ..
  rw [e, e]
  have h2 : (putVals C o us)[i]? = (C.toList.take o ++ us ++ C.toList.drop (o + us.length))[i]? := by simp [putVals]
  rw [h2, h]
  split
  · simp
  · split
    · simp [List.getD]
    · simp

theorem csr_list {V : View} {cs : List Cell} {vs : Array Value} (h : CSR V cs vs) {i : Nat} {c : Cell} (hc : cs[i]? = some c) : CR V c (vs.toList.getD i undef) := by
  have := h.get i c hc
  have e : vs.getD i undef = vs.toList.getD i undef := by simp [Array.getD_eq_getD_getElem?, List.getD]
  rwa [← e]

/-- A write through a pointer. -/
theorem wrPtr_sound {P : Program} {V : View} (H : HR V) {p : Cell} {v : Value} (h : CR V p v) {cs : List Cell} {us : Array Value} (hcs : CSR V cs us) {hd : Nat} {b : Blk} (hw : wrPtr V.bl cs p = some (hd, b)) :
    ∃ ad w', v = .pointer (some ad) ∧ (storeCells ad us.toList).run P V.w = .ok () w' ∧ Ext V ⟨w', V.mu, upd V.bl hd b, V.hid⟩ ∧ HR ⟨w', V.mu, upd V.bl hd b, V.hid⟩ := by
  have hul : us.toList.length = cs.length := by simpa using hcs.len.symm
  cases h with
  | @bp h off b0 h1 h3 =>
    unfold wrPtr at hw
    simp only at hw
    split at hw
    · rename_i cs0 hb
      split at hw
      · rename_i hle
        injection hw with hw
        injection hw with hw1 hw2
        subst hw1 hw2
        have hv := h3 _ hb
        subst hv
        obtain ⟨C, e, hh, hl, hc⟩ := H.at hb
        have hlive : (V.bl h).live := by rw [hb]; trivial
        have ho : off + us.toList.length ≤ C.size := by omega
        have hst := run_storeCells_at P (V.mu h) off e us.toList 0 C V.w hh (by omega) hcs.one1
        rw [Nat.add_zero] at hst
        have hsz : ∀ b', b' ≠ V.mu h → (V.w.setRow (V.mu h) (putVals C off us.toList)).heap[b']? = V.w.heap[b']? := fun b' hb' => setRow_other _ _ _ _ hb'
        have ht : Turn V ⟨V.w.setRow (V.mu h) (putVals C off us.toList), V.mu, upd V.bl h (.box (putCells cs0 off cs)), V.hid⟩ h := by
          unfold Turn
          rw [hb]
          exact .inr ⟨_, upd_same _ _ _, putCells_length (by omega), rfl⟩
        refine ⟨_, _, rfl, hst, View.write H hlive (setRow_size ..) hsz _ ht, HR.write H hlive (setRow_size ..) hsz ht (fun V' hV' E => ?_)⟩
        subst hV'
        refine ⟨_, e, setRow_heap _ _ _ _ _ _ hh, ?_, fun i c hi => ?_⟩
        · rw [putCells_length (by omega)]
          have := putVals_size ho
          omega
        · have hg := putVals_getD ho i
          rw [hg]
          rw [putCells_get (by omega)] at hi
          split at hi
          · rename_i hlt; rw [if_pos hlt]; exact (hc i c hi).mono E
          · rename_i hlt
            rw [if_neg hlt]
            split at hi
            · rename_i hlt2; rw [if_pos (by omega)]; exact (csr_list hcs hi).mono E
            · rename_i hlt2; rw [if_neg (by omega)]; exact (hc i c hi).mono E
      · cases hw
    · cases hw
  | @ep a sz i off A n' cap h1 h2 =>
    cases a with
    | sl h n lo len =>
      unfold wrPtr at hw
      simp only at hw
      split at hw
      · rename_i sz' rows hb
        split at hw
        · rename_i hcond
          obtain ⟨hs1, hn1, hi1⟩ := hcond
          subst hs1
          split at hw
          · rename_i r hr
            split at hw
            · rename_i hle
              injection hw with hw
              injection hw with hw1 hw2
              subst hw1 hw2
              cases h1 with
              | ro h1 => cases h1
              | sl g1 g2 g3 =>
                obtain ⟨_, hok⟩ := g3 _ _ hb
                obtain ⟨hlo, cap', cells, e', fr, h5, h6, h7, hv⟩ := hok hn1
                injection hv with hA _ _
                injection hA with hA
                subst hA
                obtain ⟨hwid, C, e, hh, hl, hc⟩ := H.at hb
                have hlive : (V.bl h).live := by rw [hb]; trivial
                have hrl : r.length = sz' := hwid r (List.mem_of_getElem? hr)
                have hrow := (List.getElem?_eq_some_iff.1 hr).1
                have hoff : lo * sz' + (i * sz' + off) = (lo + i) * sz' + off := by rw [Nat.add_mul]; omega
                have hend : (lo + i) * sz' + sz' ≤ C.size := by
                  have : (lo + i + 1) * sz' ≤ rows.length * sz' := Nat.mul_le_mul_right _ hrow
                  rw [Nat.add_mul, Nat.one_mul] at this
                  omega
                have ho : (lo + i) * sz' + off + us.toList.length ≤ C.size := by omega
                have hst := run_storeCells_at P (V.mu h) ((lo + i) * sz' + off) e us.toList 0 C V.w hh (by omega) hcs.one1
                rw [Nat.add_zero] at hst
                have hsz : ∀ b', b' ≠ V.mu h → (V.w.setRow (V.mu h) (putVals C ((lo + i) * sz' + off) us.toList)).heap[b']? = V.w.heap[b']? := fun b' hb' => setRow_other _ _ _ _ hb'
                have ht : Turn V ⟨V.w.setRow (V.mu h) (putVals C ((lo + i) * sz' + off) us.toList), V.mu, upd V.bl h (.arr sz' (rows.set (lo + i) (putCells r off cs))), V.hid⟩ h := by
                  unfold Turn
                  rw [hb]
                  refine .inr ⟨_, upd_same _ _ _, .inl ⟨by simp, rfl, fun cells0 e0 fr0 hc0 => ?_⟩⟩
                  rw [hh] at hc0
                  injection hc0 with hc0
                  injection hc0 with hc1 hc2 hc3
                  subst hc1 hc2 hc3
                  exact ⟨_, setRow_heap _ _ _ _ _ _ hh, putVals_size ho⟩
                refine ⟨_, _, rfl, ?_, View.write H hlive (setRow_size ..) hsz _ ht, HR.write H hlive (setRow_size ..) hsz ht (fun V' hV' E => ?_)⟩
                · simp only [hoff]; exact hst
                · subst hV'
                  refine ⟨fun r' hr' => ?_, _, e, setRow_heap _ _ _ _ _ _ hh, ?_, fun i' j c hi => ?_⟩
                  · rcases List.mem_or_eq_of_mem_set hr' with hr' | hr'
                    · exact hwid _ hr'
                    · rw [hr', putCells_length (by omega)]; exact hrl
                  · have := putVals_size ho
                    simp only [List.length_set]
                    omega
                  · have hg := putVals_getD ho (i' * sz' + j)
                    rw [hg]
                    obtain ⟨r', hr1, hr2⟩ := rc_some hi
                    by_cases hii : i' = lo + i
                    · subst hii
                      rw [List.getElem?_set_self hrow] at hr1
                      injection hr1 with hr1
                      subst hr1
                      rw [putCells_get (by omega)] at hr2
                      split at hr2
                      · rename_i hlt
                        rw [if_pos (by omega)]
                        exact (hc _ _ _ (by unfold rc; rw [hr]; exact hr2)).mono E
                      · rename_i hlt
                        rw [if_neg (by omega)]
                        split at hr2
                        · rename_i hlt2
                          rw [if_pos (by omega)]
                          have hx : (lo + i) * sz' + j - ((lo + i) * sz' + off) = j - off := by omega
                          rw [hx]
                          exact (csr_list hcs hr2).mono E
                        · rename_i hlt2
                          rw [if_neg (by omega)]
                          exact (hc _ _ _ (by unfold rc; rw [hr]; exact hr2)).mono E
                    · rw [List.getElem?_set_ne (Ne.symm hii)] at hr1
                      have hrc : rc rows i' j = some c := by unfold rc; rw [hr1]; exact hr2
                      have hj : j < sz' := by
                        have := (List.getElem?_eq_some_iff.1 hr2).1
                        have := hwid _ (List.mem_of_getElem? hr1)
                        omega
                      have hval := (hc _ _ _ hrc).mono E
                      rcases Nat.lt_or_gt_of_ne hii with hlt | hgt
                      · rw [if_pos (by have := mul_lt_of (sz := sz') hlt hj; omega)]
                        exact hval
                      · have h9 : (lo + i + 1) * sz' ≤ i' * sz' := Nat.mul_le_mul_right _ hgt
                        rw [Nat.add_mul, Nat.one_mul] at h9
                        rw [if_neg (by omega), if_neg (by omega)]
                        exact hval
            · cases hw
          · cases hw
        · cases hw
      · cases hw
    | _ => simp [wrPtr] at hw
  | ro h => cases h <;> simp [wrPtr] at hw
  | _ => simp [wrPtr] at hw

end Go.AM
