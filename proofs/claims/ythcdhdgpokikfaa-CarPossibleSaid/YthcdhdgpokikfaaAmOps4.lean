/- append. -/
import Derived.Test.YthcdhdgpokikfaaAmOps3
import Derived.Laws.Append
namespace Go.AM

theorem ne_of_d {k j : Nat} {blk : Blk} (h : ∀ b, some (k, blk) ≠ some (j, b)) : j ≠ k := fun e => h blk (by subst e; rfl)

theorem run_append_empty {P : Program} (w : World) (t ty e : TypeId) (i : TypeInfo) (ht : P.underlying t = some (.slice e)) (hi : P.info? e = some i) (base A : Option Addr) (n cap c : Nat) (hle : n ≤ cap) :
    (Builtin.append_ #[t, t] ty #[.slice base n cap, .slice A 0 c]).run P w = .ok (.slice base n cap) w := by
  cases A <;> cases base <;> simp [Builtin.append_, run_underlying ht, sizeOf, typeInfo, hi, Builtin.lenOf, Builtin.firstCells, hle, loadCells, loadCellsFrom, storeCells]

theorem run_append_room' {P : Program} (w : World) (t ty e e' : TypeId) (i : TypeInfo) (ht : P.underlying t = some (.slice e)) (hi : P.info? e = some i)
    (g sLen sCap : Nat) (cur : Array Value) (hg : w.heap[g]? = some (.cells cur e' (0, 0)))
    (a : Addr) (m c : Nat) (news : List Value) (hl : news.length = m * i.size) (hnews : ∀ j u, news[j]? = some u → w.cell? (a.add j) = some u) (h1 : ∀ u ∈ news, u.oneCell' = true)
    (hroom : sLen + m ≤ sCap) (hfit : sLen * i.size + news.length ≤ cur.size) :
    (Builtin.append_ #[t, t] ty #[.slice (some ⟨g, 0, none⟩) sLen sCap, .slice (some a) m c]).run P w =
      .ok (.slice (some ⟨g, 0, none⟩) (sLen + m) sCap) (w.setRow g (putVals cur (sLen * i.size) news)) := by
  have hf := run_firstCells_some (P := P) w i.size m a m c news hl hnews
  have hst := run_storeCells_at P g (sLen * i.size) e' news 0 cur w hg (by simpa using hfit) h1
  simp only [Nat.add_zero] at hst
  simp [Builtin.append_, run_underlying ht, sizeOf, typeInfo, hi, Builtin.lenOf, hroom, hf, Addr.add_lit, hst, putVals]

/-- The values behind rows that are read. -/
theorem rows_vals {V : View} {sz : Nat} {v : Value} {rows : List (List Cell)} {A : Option Addr} {cap : Nat} (R : RowsAt V sz v rows A cap) (hs : 0 < sz) (hne : rows ≠ []) :
    ∃ (ad : Addr) (news : List Value), A = some ad ∧ news.length = rows.length * sz ∧ (∀ j u, news[j]? = some u → V.w.cell? (ad.add j) = some u) ∧ (∀ u ∈ news, u.oneCell' = true) ∧
      ∀ i j c, rc rows i j = some c → CR V c (news.getD (i * sz + j) undef) := by
  obtain ⟨ad, rfl⟩ := R.addr hne
  have hsp := R.spot ad rfl hne
  let f : Nat → Value := fun k => (V.w.cell? ⟨ad.block, ad.off + k, none⟩).getD undef
  have key : ∀ k, k < rows.length * sz → ∃ c u, rc rows (k / sz) (k % sz) = some c ∧ V.w.cell? ⟨ad.block, ad.off + k, none⟩ = some u ∧ CR V c u := by
    intro k hk
    have h1 : k / sz < rows.length := Nat.div_lt_of_lt_mul (by rw [Nat.mul_comm]; exact hk)
    have h2 : k % sz < sz := Nat.mod_lt _ hs
    have hw := R.wid _ (List.getElem_mem h1)
    have hrc : rc rows (k / sz) (k % sz) = some ((rows[k / sz])[k % sz]'(by omega)) := by
      unfold rc
      rw [List.getElem?_eq_getElem h1]
      exact List.getElem?_eq_getElem _
    obtain ⟨u, hu, hc⟩ := R.cell ad rfl _ _ _ hrc
    have he : k / sz * sz + k % sz = k := Nat.div_add_mod' k sz
    rw [he] at hu
    exact ⟨_, u, hrc, hu, hc⟩
  refine ⟨ad, (List.range (rows.length * sz)).map f, rfl, by simp, fun j u hj => ?_, fun u hu => ?_, fun i j c hc => ?_⟩
  · obtain ⟨hj', rfl⟩ := List.getElem?_eq_some_iff.1 hj
    obtain ⟨c, u, _, hu, _⟩ := key j (by simpa using hj')
    rw [add_spot hsp]
    simp [f, hu]
  · obtain ⟨k, hk, rfl⟩ := List.mem_map.1 hu
    obtain ⟨c, u, _, hu, hcr⟩ := key k (by simpa using hk)
    simp [f, hu, hcr.one]
  · obtain ⟨r, hr1, hr2⟩ := rc_some hc
    have hj := (List.getElem?_eq_some_iff.1 hr2).1
    have hi := (List.getElem?_eq_some_iff.1 hr1).1
    have hw := R.wid _ (List.mem_of_getElem? hr1)
    have hlt : i * sz + j < rows.length * sz := mul_lt_of hi (by omega)
    obtain ⟨u, hu, hcr⟩ := R.cell ad rfl _ _ _ hc
    have e : ((List.range (rows.length * sz)).map f).getD (i * sz + j) undef = u := by simp [List.getD, hlt, f, hu]
    rw [e]; exact hcr

theorem getD_append_toArray {xs ys : List Value} {zs : Array Value} {k : Nat} : (xs.toArray ++ ys.toArray ++ zs).getD k undef = if k < xs.length then xs.getD k undef else if k < xs.length + ys.length then ys.getD (k - xs.length) undef else zs.getD (k - (xs.length + ys.length)) undef := by
  simp only [Array.getD_eq_getD_getElem?, List.getD_eq_getElem?_getD]
  by_cases h1 : k < xs.length
  · rw [if_pos h1, Array.getElem?_append_left (by simp; omega), Array.getElem?_append_left (by simpa using h1)]
    simp
  · rw [if_neg h1]
    by_cases h2 : k < xs.length + ys.length
    · rw [if_pos h2, Array.getElem?_append_left (by simp; omega), Array.getElem?_append_right (by simp; omega)]
      simp
    · rw [if_neg h2, Array.getElem?_append_right (by simp; omega)]
      simp

theorem appendA_sound {P : Program} {V : View} (H : HR V) {t ty e : TypeId} {i : TypeInfo} {zv : Value} (ht : P.underlying t = some (.slice e)) (hi : P.info? e = some i) (hz : i.zero = some zv) (hzs : zv.cells.size = i.size) (hs : 0 < i.size)
    {nw : Nat} (hn : V.bl nw = .none) {sc : Cell} {vs vx : Value} (hcs : CR V sc vs) {new : List (List Cell)} {A : Option Addr} {cx : Nat} (R : RowsAt V i.size vx new A cx) {v : AV} {d : Option (Nat × Blk)}
    (h : appendA nw V.bl i.size i.bytes sc new = some (v, d)) (hb0 : 0 < i.bytes) :
    ∃ w' mu' v', (Builtin.append_ #[t, t] ty #[vs, vx]).run P V.w = .ok v' w' ∧ Ext V ⟨w', mu', bapp V.bl d, V.hid⟩ ∧ HR ⟨w', mu', bapp V.bl d, V.hid⟩ ∧ VR ⟨w', mu', bapp V.bl d, V.hid⟩ v v' ∧ ∀ j, (∀ b, d ≠ some (j, b)) → mu' j = V.mu j := by
  have hvx := R.val
  subst hvx
  unfold appendA at h
  split at h
  · rename_i hemp
    have hnil : new = [] := List.isEmpty_iff.1 hemp
    subst hnil
    simp only [List.length_nil] at *
    have same : ∀ (base : Option Addr) (n cap : Nat), n ≤ cap → vs = .slice base n cap → v = .one sc → d = none → ∃ w' mu' v', (Builtin.append_ #[t, t] ty #[vs, .slice A 0 cx]).run P V.w = .ok v' w' ∧ Ext V ⟨w', mu', bapp V.bl d, V.hid⟩ ∧ HR ⟨w', mu', bapp V.bl d, V.hid⟩ ∧ VR ⟨w', mu', bapp V.bl d, V.hid⟩ v v' ∧ ∀ j, (∀ b, d ≠ some (j, b)) → mu' j = V.mu j := by
      rintro base n cap hle rfl rfl rfl
      exact ⟨V.w, V.mu, _, run_append_empty V.w t ty e i ht hi base A n cap cx hle, Ext.refl V, H, .one hcs, fun _ _ => rfl⟩
    split at h
    · injection h with h
      injection h with h1 h2
      cases hcs with
      | ro hr => cases hr with
        | sc _ => exact same none 0 0 (Nat.le_refl _) rfl h1.symm h2.symm
    · injection h with h
      injection h with h1 h2
      cases hcs with
      | ro hr => cases hr with
        | @e0 A0 => exact same A0 0 0 (Nat.le_refl _) rfl h1.symm h2.symm
    · rename_i hh n lo len
      split at h
      · rename_i sz' rows hb
        split at h
        · rename_i hc
          injection h with h
          injection h with h1 h2
          cases hcs with
          | ro hr => cases hr
          | sl g1 g2 g3 =>
            obtain ⟨_, hok⟩ := g3 _ _ hb
            obtain ⟨_, cap, _, _, _, _, hle, _, hv⟩ := hok hc.2
            exact same _ _ _ hle hv h1.symm h2.symm
        · cases h
      · cases h
    · cases h
  · rename_i hemp
    have hne : new ≠ [] := fun h => hemp (by simp [h])
    have h0 : 0 < new.length := List.length_pos_iff.2 hne
    obtain ⟨ad, news, rfl, hl, hnews, hone, hcr⟩ := rows_vals R hs hne
    have fresh : ∀ (base : Option Addr), vs = .slice base 0 0 → v = .one (.sl nw new.length 0 new.length) → d = some (nw, .arr i.size new) → new.length * i.bytes ≤ LIM →
        ∃ w' mu' v', (Builtin.append_ #[t, t] ty #[vs, .slice (some ad) new.length cx]).run P V.w = .ok v' w' ∧ Ext V ⟨w', mu', bapp V.bl d, V.hid⟩ ∧ HR ⟨w', mu', bapp V.bl d, V.hid⟩ ∧ VR ⟨w', mu', bapp V.bl d, V.hid⟩ v v' ∧ ∀ j, (∀ b, d ≠ some (j, b)) → mu' j = V.mu j := by
      rintro base rfl rfl rfl hlim
      unfold LIM at hlim
      have hlen : new.length ≤ 140737488355328 := Nat.le_trans (Nat.le_mul_of_pos_right _ hb0) hlim
      have hge := grownCap_ge V.w new.length 0 e
      have run : (Builtin.append_ #[t, t] ty #[.slice base 0 0, .slice (some ad) new.length cx]).run P V.w =
          .ok (.slice (some ⟨V.w.heap.size, 0, none⟩) new.length (grownCap V.w new.length 0 e)) (V.w.drew.alloc (.cells (news.toArray ++ Builtin.zeroCells zv.cells (grownCap V.w new.length 0 e - new.length)) e)) := by
        cases base with
        | none => exact run_append_nil V.w t ty e i zv ht hi hz ad new.length cx news hl hnews h0 (by omega) (by omega)
        | some b =>
          have := run_append_grow V.w t ty e i zv ht hi hz b 0 0 [] (by simp) (fun j v hj => by simp at hj) ad new.length cx news hl hnews (by omega) (by omega) (by rw [Nat.zero_add, nextslicecap_zero h0]; omega)
          rw [Nat.zero_add] at this
          simpa using this
      have hws : (V.w.drew.alloc (.cells (news.toArray ++ Builtin.zeroCells zv.cells (grownCap V.w new.length 0 e - new.length)) e)).heap = V.w.heap.push (.cells (news.toArray ++ Builtin.zeroCells zv.cells (grownCap V.w new.length 0 e - new.length)) e) := rfl
      have hszs : grownCap V.w new.length 0 e * i.size ≤ (news.toArray ++ Builtin.zeroCells zv.cells (grownCap V.w new.length 0 e - new.length)).size := by
        simp only [Array.size_append, List.size_toArray, size_zeroCells, hzs, hl]
        rw [← Nat.add_mul]
        exact Nat.mul_le_mul_right _ (by omega)
      obtain ⟨h1, h2, h3⟩ := new_arr H hws hn R.wid hge hszs (fun i' j c hc => by
        have := getD_append_toArray (xs := []) (ys := news) (zs := Builtin.zeroCells zv.cells (grownCap V.w new.length 0 e - new.length)) (k := i' * i.size + j)
        simp only [List.length_nil, Nat.not_lt_zero, if_false, Nat.zero_add, Nat.sub_zero] at this
        have he : (([] : List Value).toArray ++ news.toArray ++ Builtin.zeroCells zv.cells (grownCap V.w new.length 0 e - new.length)) = news.toArray ++ Builtin.zeroCells zv.cells (grownCap V.w new.length 0 e - new.length) := by simp
        rw [he] at this
        rw [this]
        obtain ⟨r, hr1, hr2⟩ := rc_some hc
        have hj := (List.getElem?_eq_some_iff.1 hr2).1
        have hi' := (List.getElem?_eq_some_iff.1 hr1).1
        have hw := R.wid _ (List.mem_of_getElem? hr1)
        rw [if_pos (by rw [hl]; exact mul_lt_of hi' (by omega))]
        exact hcr i' j c hc)
      exact ⟨_, _, _, run, h1, h2, h3, fun j hj => upd_ne _ _ (ne_of_d hj)⟩
    split at h
    · split at h
      · rename_i hlim
        injection h with h
        injection h with h1 h2
        cases hcs with
        | ro hr => cases hr with
          | sc _ => exact fresh none rfl h1.symm h2.symm hlim
      · cases h
    · split at h
      · rename_i hlim
        injection h with h
        injection h with h1 h2
        cases hcs with
        | ro hr => cases hr with
          | @e0 A0 => exact fresh A0 rfl h1.symm h2.symm hlim
      · cases h
    · rename_i hh n lo len
      split at h
      · rename_i sz' rows hb
        split at h
        · rename_i hc
          obtain ⟨hc1, hc2, hc3, hc4, hc5⟩ := hc
          subst hc1 hc3 hc4
          injection h with h
          injection h with h1 h2
          subst h1 h2
          unfold LIM at hc5
          cases hcs with
          | ro hr => cases hr
          | @sl _ _ _ _ A0 cap g1 g2 g3 =>
            obtain ⟨_, hok⟩ := g3 _ _ hb
            obtain ⟨_, cap', cells, e0, fr, h5, hle, h7, hv⟩ := hok hc2
            injection hv with hv1 hv2 hv3
            injection hv1 with hv1
            subst hv1 hv3
            obtain ⟨hwid, C, e', hhp, hCs, hcell⟩ := H.at hb
            rw [hhp] at h5
            injection h5 with h5
            injection h5 with h5a h5b h5c
            subst h5a
            simp only [Nat.zero_mul]
            rw [Nat.zero_add] at h7
            have hlive : (V.bl hh).live := by rw [hb]; trivial
            have hnl : rows.length = len := hc2
            have hrl : rows.length < (rows ++ new).length := by simp; omega
            have hlen : len + new.length ≤ 140737488355328 := Nat.le_trans (Nat.le_mul_of_pos_right _ hb0) hc5
            have hcell2 : ∀ i' j c, rc (rows ++ new) i' j = some c → (i' < len ∧ j < i.size ∧ rc rows i' j = some c) ∨ (len ≤ i' ∧ i' < len + new.length ∧ j < i.size ∧ rc new (i' - len) j = some c) := by
              intro i' j c hc
              obtain ⟨r, hr1, hr2⟩ := rc_some hc
              have hj := (List.getElem?_eq_some_iff.1 hr2).1
              by_cases hlt : i' < len
              · rw [List.getElem?_append_left (by omega)] at hr1
                have hw := hwid _ (List.mem_of_getElem? hr1)
                exact .inl ⟨hlt, by omega, by unfold rc; rw [hr1]; exact hr2⟩
              · rw [List.getElem?_append_right (by omega), hnl] at hr1
                have hw := R.wid _ (List.mem_of_getElem? hr1)
                have := (List.getElem?_eq_some_iff.1 hr1).1
                exact .inr ⟨by omega, by omega, by omega, by unfold rc; rw [hr1]; exact hr2⟩
            by_cases hroom : len + new.length ≤ cap
            · -- in place
              have hfit : len * i.size + news.length ≤ C.size := by
                rw [hl, ← Nat.add_mul]
                exact Nat.le_trans (Nat.mul_le_mul_right _ hroom) h7
              have run := run_append_room' V.w t ty e e' i ht hi (V.mu hh) len cap C hhp ad new.length cx news hl hnews hone hroom hfit
              have hsz : ∀ b', b' ≠ V.mu hh → (V.w.setRow (V.mu hh) (putVals C (len * i.size) news)).heap[b']? = V.w.heap[b']? := fun b' hb' => setRow_other _ _ _ _ hb'
              have ht' : Turn V ⟨V.w.setRow (V.mu hh) (putVals C (len * i.size) news), V.mu, upd V.bl hh (.arr i.size (rows ++ new)), V.hid⟩ hh := by
                unfold Turn
                rw [hb]
                exact .inr ⟨_, upd_same _ _ _, .inr hrl⟩
              refine ⟨_, V.mu, _, run, View.write H hlive (setRow_size ..) hsz _ ht', HR.write H hlive (setRow_size ..) hsz ht' (fun V' hV' E => ?_), .one (.sl (by simp only [bapp, upd_same]; simp) hroom (fun sz'' rows'' hb'' => ?_)), fun _ _ => rfl⟩
              · subst hV'
                refine ⟨fun r hr => ?_, _, e', setRow_heap _ _ _ _ _ _ hhp, ?_, fun i' j c hc => ?_⟩
                · rcases List.mem_append.1 hr with hr | hr
                  · exact hwid r hr
                  · exact R.wid r hr
                · rw [putVals_size hfit, List.length_append, hnl, Nat.add_mul, ← hl]; exact hfit
                · rw [putVals_getD hfit]
                  rcases hcell2 i' j c hc with ⟨h1, h2, h3⟩ | ⟨h1, h2, h3, h4⟩
                  · rw [if_pos (mul_lt_of h1 h2)]
                    exact (hcell _ _ _ h3).mono E
                  · have hge : len * i.size ≤ i' * i.size := Nat.mul_le_mul_right _ h1
                    have hlt : i' * i.size + j < (len + new.length) * i.size := mul_lt_of h2 h3
                    rw [Nat.add_mul, ← hl] at hlt
                    rw [if_neg (by omega), if_pos hlt]
                    have he : i' * i.size + j - len * i.size = (i' - len) * i.size + j := by rw [Nat.sub_mul]; omega
                    rw [he]
                    exact (hcr _ _ _ h4).mono E
              · simp only [bapp, upd_same] at hb''
                injection hb'' with hb1 hb2
                subst hb1 hb2
                refine ⟨by simp [hnl], fun _ => ⟨by omega, cap, _, e', (0, 0), setRow_heap _ _ _ _ _ _ hhp, hroom, ?_, by simp⟩⟩
                rw [putVals_size hfit, Nat.zero_add]; exact h7
            · -- a new block
              have hg : cap < len + new.length := by omega
              have holds : ∀ j v, (C.toList.take (len * i.size))[j]? = some v → V.w.cell? ((⟨V.mu hh, 0, none⟩ : Addr).add j) = some v := by
                intro j v hj
                rw [List.getElem?_take] at hj
                split at hj
                · rename_i hlt
                  rw [add_spot rfl]
                  simp only [Nat.zero_add]
                  have hlt2 : j < C.size := Nat.lt_of_lt_of_le hlt (by rw [← hnl]; exact hCs)
                  rw [cell_block hhp hlt2]
                  congr 1
                  have : C.toList[j]? = some (C.getD j undef) := by simp [Array.getD, hlt2]
                  rw [this] at hj
                  injection hj
                · cases hj
              have hol : (C.toList.take (len * i.size)).length = len * i.size := by
                simp; rw [← hnl]; omega
              have hfit : Builtin.nextslicecap (len + new.length) cap * i.bytes ≤ 281474976710656 := by
                have := Nat.mul_le_mul_right i.bytes (nextslicecap_le hg)
                rw [Nat.mul_assoc] at this
                omega
              have run := run_append_grow V.w t ty e i zv ht hi hz ⟨V.mu hh, 0, none⟩ len cap _ hol holds ad new.length cx news hl hnews hg (by omega) hfit
              have hge := grownCap_ge V.w (len + new.length) cap e
              refine ⟨_, _, _, run, View.grow H rfl hb hrl, HR.grow H rfl hb hrl (fun V' hV' E ho => ?_), .one (.sl (by simp only [bapp, upd_same]; simp) hge (fun sz'' rows'' hb'' => ?_)), fun j hj => upd_ne _ _ (ne_of_d hj)⟩
              · refine ⟨fun r hr => ?_, _, e, ho, ?_, fun i' j c hc => ?_⟩
                · rcases List.mem_append.1 hr with hr | hr
                  · exact hwid r hr
                  · exact R.wid r hr
                · simp only [Array.size_append, List.size_toArray, hol, hl, List.length_append, hnl, Nat.add_mul]; omega
                · rw [getD_append_toArray, hol]
                  rcases hcell2 i' j c hc with ⟨h1, h2, h3⟩ | ⟨h1, h2, h3, h4⟩
                  · have hlt := mul_lt_of h1 h2
                    rw [if_pos hlt]
                    have hx : (C.toList.take (len * i.size)).getD (i' * i.size + j) undef = C.getD (i' * i.size + j) undef := by
                      simp [List.getD, Array.getD_eq_getD_getElem?, hlt]
                    rw [hx]
                    exact (hcell _ _ _ h3).mono E
                  · have hge' : len * i.size ≤ i' * i.size := Nat.mul_le_mul_right _ h1
                    have hlt : i' * i.size + j < (len + new.length) * i.size := mul_lt_of h2 h3
                    rw [Nat.add_mul] at hlt
                    rw [if_neg (by omega), if_pos (by rw [hl]; exact hlt)]
                    have he : i' * i.size + j - len * i.size = (i' - len) * i.size + j := by rw [Nat.sub_mul]; omega
                    rw [he]
                    exact (hcr _ _ _ h4).mono E
              · simp only [bapp, upd_same] at hb''
                injection hb'' with hb1 hb2
                subst hb1 hb2
                refine ⟨by simp [hnl], fun _ => ⟨by omega, _, _, e, (0, 0), by simp only [upd_same]; exact push_at rfl, hge, ?_, by simp only [upd_same, Nat.zero_mul]⟩⟩
                simp only [Array.size_append, List.size_toArray, hol, hl, size_zeroCells, hzs, Nat.zero_add, ← Nat.add_mul]
                exact Nat.mul_le_mul_right _ (by omega)
        · cases h
      · cases h
    · cases h

end Go.AM
