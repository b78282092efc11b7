/- frames.Copy: frames in memory of the call's own. -/
import Derived.Test.YtipppemkcbgecaaFrB
open Go Go.RowKit
namespace Go.Proofs.Ytipppemkcbgecaa
/-- Frames that the call owns, from block lo on. -/
structure OwnFr (w : World) (lo : Nat) (f : Fr) (bd cd br cr : Nat) (rows : List Value) : Prop where
  ne : bd ≠ br
  data : w.ownsRow lo 24 1 (.slice (some ⟨bd, 0, none⟩) f.data.length cd) f.data.length rows
  refs : w.ownsRow lo 3 1 (.slice (some ⟨br, 0, none⟩) f.refs.length cr) f.refs.length (ints f.refs)
  row : ∀ i, i < f.data.length → w.ownsRow lo 3 1 (rows.getD i undef) (f.data.getD i []).length (ints (f.data.getD i []))
  apart : ∀ i, i < f.data.length → ∀ b, (rows.getD i undef).ownBlock = some b → b ≠ bd ∧ b ≠ br
  each : ∀ i j, i < f.data.length → j < f.data.length → i ≠ j → ∀ b, (rows.getD i undef).ownBlock = some b → (rows.getD j undef).ownBlock ≠ some b
/-- Behind the two clones: the box has both. -/
theorem copy_rel {w W0 w1 w2 : World} {dv rv u1 u2 : Value} {n m g1 cap1 g2 cap2 : Nat} {rows : List Value} {l : List Value} {t te ti : TypeId}
    (hB : Below w.heap.size w W0) (h0 : Blk W0 w.heap.size t #[dv, rv]) (h0' : Blk W0 (w.heap.size + 1) t #[u1, u2])
    (hb1 : Below W0.heap.size W0 w1) (hown1 : w1.ownsRow W0.heap.size te 1 (.slice (some ⟨g1, 0, none⟩) n cap1) n rows)
    (hb2 : Below w1.heap.size w1 w2) (hown2 : w2.ownsRow w1.heap.size ti 1 (.slice (some ⟨g2, 0, none⟩) m cap2) m l) :
    g1 ≠ g2 ∧ Below w.heap.size w ((w2.setCell ⟨w.heap.size, 0, none⟩ (.slice (some ⟨g1, 0, none⟩) n cap1)).setCell ⟨w.heap.size, 1, none⟩ (.slice (some ⟨g2, 0, none⟩) m cap2)) ∧
      Blk ((w2.setCell ⟨w.heap.size, 0, none⟩ (.slice (some ⟨g1, 0, none⟩) n cap1)).setCell ⟨w.heap.size, 1, none⟩ (.slice (some ⟨g2, 0, none⟩) m cap2)) w.heap.size t #[.slice (some ⟨g1, 0, none⟩) n cap1, .slice (some ⟨g2, 0, none⟩) m cap2] ∧
      Blk ((w2.setCell ⟨w.heap.size, 0, none⟩ (.slice (some ⟨g1, 0, none⟩) n cap1)).setCell ⟨w.heap.size, 1, none⟩ (.slice (some ⟨g2, 0, none⟩) m cap2)) (w.heap.size + 1) t #[u1, u2] ∧
      ((w2.setCell ⟨w.heap.size, 0, none⟩ (.slice (some ⟨g1, 0, none⟩) n cap1)).setCell ⟨w.heap.size, 1, none⟩ (.slice (some ⟨g2, 0, none⟩) m cap2)).ownsRow (w.heap.size + 2) te 1 (.slice (some ⟨g1, 0, none⟩) n cap1) n rows ∧
      ((w2.setCell ⟨w.heap.size, 0, none⟩ (.slice (some ⟨g1, 0, none⟩) n cap1)).setCell ⟨w.heap.size, 1, none⟩ (.slice (some ⟨g2, 0, none⟩) m cap2)).ownsRow (w.heap.size + 2) ti 1 (.slice (some ⟨g2, 0, none⟩) m cap2) m l := by
  have hs0 := h0'.lt
  have hs1 := hb1.size
  have hs2 := hb2.size
  have l1 := hown1.lt g1 rfl
  have l2 := hown2.lt g2 rfl
  have hbel : Below w.heap.size w w2 := below_up' (below_up' hB hb1) hb2
  have B0 := (h0.below hb1).below hb2
  have B1 := (h0'.below hb1).below hb2
  have o1 : w2.ownsRow W0.heap.size te 1 (.slice (some ⟨g1, 0, none⟩) n cap1) n rows := own_below hown1 hb2
  refine ⟨by omega, (hbel.setCell (by simp) _).setCell (by simp) _, ?_, (B1.other (by simp) _).other (by simp) _, ?_, ?_⟩
  · have := (B0.set 0 (.slice (some ⟨g1, 0, none⟩) n cap1)).set 1 (.slice (some ⟨g2, 0, none⟩) m cap2)
    simpa using this
  · exact own_base_le (ownsRow_setCell_other (ownsRow_setCell_other o1 (by simp [Value.ownBlock]; omega) _) (by simp [Value.ownBlock]; omega) _) (by omega)
  · exact own_base_le (ownsRow_setCell_other (ownsRow_setCell_other hown2 (by simp [Value.ownBlock]; omega) _) (by simp [Value.ownBlock]; omega) _) (by omega)
/-- Behind k rounds. -/
structure CopyAt (w wr : World) (f : Fr) (rows0 : List Value) (n m g1 cap1 g2 cap2 k : Nat) (rows : List Value) : Prop where
  len : rows.length = k
  below : Below w.heap.size w wr
  box : Blk wr w.heap.size 40 #[.slice (some ⟨g1, 0, none⟩) n cap1, .slice (some ⟨g2, 0, none⟩) m cap2]
  out : Blk wr (w.heap.size + 1) 40 #[.slice none 0 0, .slice none 0 0]
  ne : g1 ≠ g2
  data : wr.ownsRow (w.heap.size + 2) 24 1 (.slice (some ⟨g1, 0, none⟩) n cap1) n (rows ++ rows0.drop k)
  refs : wr.ownsRow (w.heap.size + 2) 3 1 (.slice (some ⟨g2, 0, none⟩) m cap2) m (ints f.refs)
  row : ∀ i, i < k → wr.ownsRow (w.heap.size + 2) 3 1 (rows.getD i undef) (f.data.getD i []).length (ints (f.data.getD i []))
  apart : ∀ i, i < k → ∀ b, (rows.getD i undef).ownBlock = some b → b ≠ g1 ∧ b ≠ g2
  each : ∀ i j, i < k → j < k → i ≠ j → ∀ b, (rows.getD i undef).ownBlock = some b → (rows.getD j undef).ownBlock ≠ some b
/-- One round: a clone of row k is laid in its place. -/
theorem CopyAt.step {w wr w1 : World} {f : Fr} {rows0 rows : List Value} {n m g1 cap1 g2 cap2 k : Nat} (h : CopyAt w wr f rows0 n m g1 cap1 g2 cap2 k rows) (hk : k < n) (hl : rows0.length = n) {v : Value}
    (hb : Below wr.heap.size wr w1) (hown : w1.ownsRow wr.heap.size 3 1 v (f.data.getD k []).length (ints (f.data.getD k []))) :
    CopyAt w (w1.setCell ⟨g1, k, none⟩ v) f rows0 n m g1 cap1 g2 cap2 (k + 1) (rows ++ [v]) := by
  have l1 := h.data.lt g1 rfl
  have l2 := h.refs.lt g2 rfl
  have hz := hb.size
  have hb1 := h.box.lt
  have hb2 := h.out.lt
  have hv := hown.lt
  have gd : ∀ i, i < k → (rows ++ [v]).getD i undef = rows.getD i undef := fun i hi => by
    simp [List.getD_eq_getElem?_getD, List.getElem?_append_left (by rw [h.len]; exact hi : i < rows.length)]
  have gk : (rows ++ [v]).getD k undef = v := by
    have := h.len
    simp [List.getD_eq_getElem?_getD, ← this]
  have st : ∀ i, i < k → ∀ b, (rows.getD i undef).ownBlock = some b → b < wr.heap.size := fun i hi b e => ((h.row i hi).lt b e).2
  refine ⟨by simp [h.len], (below_up h.below h.below.size hb).setCell (by simp; omega) _, ((h.box.below hb).other (by simp; omega) _), ((h.out.below hb).other (by simp; omega) _), h.ne, ?_, ?_, ?_, ?_, ?_⟩
  · have := ((own_below h.data hb).stored k v).1
    have e : (rows ++ rows0.drop k).set k v = (rows ++ [v]) ++ rows0.drop (k + 1) := by
      have hd : rows0.drop k = rows0[k]'(by omega) :: rows0.drop (k + 1) := List.drop_eq_getElem_cons (by omega)
      rw [List.set_append_right _ _ (by rw [h.len]; omega), h.len, hd, Nat.sub_self, List.set_cons_zero]
      simp
    rwa [e] at this
  · exact ownsRow_setCell_other (own_below h.refs hb) (by simp [Value.ownBlock]; have := h.ne; omega) _
  · intro i hi
    by_cases hik : i = k
    · subst hik
      rw [gk]
      refine own_base_le (ownsRow_setCell_other hown (fun e => ?_) _) (by omega)
      have h9 : wr.heap.size ≤ g1 := (hv _ e).1
      omega
    · rw [gd i (by omega)]
      exact ownsRow_setCell_other (own_below (h.row i (by omega)) hb) (fun e => (h.apart i (by omega) _ e).1 rfl) _
  · intro i hi b e
    by_cases hik : i = k
    · subst hik
      rw [gk] at e
      have := (hv _ e).1
      omega
    · rw [gd i (by omega)] at e
      exact h.apart i (by omega) b e
  · intro i j hi hj hij b e e2
    by_cases hik : i = k
    · subst hik
      rw [gk] at e
      rw [gd j (by omega)] at e2
      have := (hv _ e).1
      have := st j (by omega) b e2
      omega
    · rw [gd i (by omega)] at e
      by_cases hjk : j = k
      · subst hjk
        rw [gk] at e2
        have := (hv _ e2).1
        have := st i (by omega) b e
        omega
      · rw [gd j (by omega)] at e2
        exact h.each i j (by omega) (by omega) hij b e e2
theorem OwnFr.other {w : World} {lo : Nat} {f : Fr} {bd cd br cr : Nat} {rows : List Value} (h : OwnFr w lo f bd cd br cr rows) {a : Addr} (ha : a.block < lo) (v : Value) : OwnFr (w.setCell a v) lo f bd cd br cr rows := by
  have l1 := h.data.lt bd rfl
  have l2 := h.refs.lt br rfl
  refine ⟨h.ne, ownsRow_setCell_other h.data (by simp [Value.ownBlock]; omega) _, ownsRow_setCell_other h.refs (by simp [Value.ownBlock]; omega) _, fun i hi => ownsRow_setCell_other (h.row i hi) (fun e => ?_) _, h.apart, h.each⟩
  have h9 : lo ≤ a.block := ((h.row i hi).lt _ e).1
  omega
theorem CopyAt.done {w wr : World} {f : Fr} {rows0 rows : List Value} {n m g1 cap1 g2 cap2 : Nat} (h : CopyAt w wr f rows0 n m g1 cap1 g2 cap2 n rows) (hl : rows0.length = n) (hn : f.data.length = n) (hm : f.refs.length = m) :
    OwnFr wr (w.heap.size + 2) f g1 cap1 g2 cap2 rows := by
  subst hn
  subst hm
  refine ⟨h.ne, ?_, h.refs, h.row, h.apart, h.each⟩
  have := h.data
  rwa [List.drop_eq_nil_of_le (by omega), List.append_nil] at this
theorem OwnFr.base {w : World} {lo lo' : Nat} {f : Fr} {bd cd br cr : Nat} {rows : List Value} (h : OwnFr w lo f bd cd br cr rows) (hl : lo' ≤ lo) : OwnFr w lo' f bd cd br cr rows :=
  ⟨h.ne, own_base_le h.data hl, own_base_le h.refs hl, fun i hi => own_base_le (h.row i hi) hl, h.apart, h.each⟩
set_option maxRecDepth 100000
set_option maxHeartbeats 2000000 in
theorem frCopy (p : Nat → Prop) (v : Value) (f : Fr) (w : World) (h : RdFr p w v f) (hn : f.data.length ≤ 200) (hm : f.refs.length ≤ 200) (hrow : ∀ i, i < f.data.length → (f.data.getD i []).length ≤ 16) :
    Calls Try.prog 25 #[v] w fun e w' => ∃ bd cd br cr rows, e = .returned (.agg #[.slice (some ⟨bd, 0, none⟩) f.data.length cd, .slice (some ⟨br, 0, none⟩) f.refs.length cr]) ∧ OwnFr w' w.heap.size f bd cd br cr rows ∧ Below w.heap.size w w' := by
  obtain ⟨bd0, od0, cd0, br0, or0, cr0, rows0, rfl, hd, hr, hrows⟩ := h
  have HR := Lib.hid hr
  have HD := Lib.hid hd
  have HW := Lib.hid hrows
  clear hr hd hrows
  have HC1 : Hid (∀ W, Below w.heap.size w W → Calls Try.prog 27 #[.slice (some ⟨bd0, od0, none⟩) f.data.length cd0] W fun e w' => ∃ g cap, e = .returned (.slice (some ⟨g, 0, none⟩) f.data.length cap) ∧ w'.ownsRow W.heap.size 24 1 (.slice (some ⟨g, 0, none⟩) f.data.length cap) f.data.length rows0 ∧ Below W.heap.size W w') := by
    intro W hW
    obtain ⟨A, c, e, h2, h3, h4, h5, h6, h7⟩ := HD.out.below (by decide) hW
    cases e
    refine clone_rows_at bd0 od0 f.data.length cd0 rows0 W (by rw [h2]; omega) (fun j x hx => ?_) (fun u hu => ?_) (by omega)
    · have hj : j < rows0.length := by
        rcases Nat.lt_or_ge j rows0.length with h | h
        · exact h
        · rw [List.getElem?_eq_none h] at hx; cases hx
      obtain ⟨b', o', e, _, hc⟩ := h7 (by omega)
      cases e
      exact hc j x hx
    · obtain ⟨i, hi, e⟩ := List.mem_iff_getElem.1 hu
      obtain ⟨A, c, e2, _⟩ := (HW.out.2 i (by rw [← HW.out.1]; exact hi)).form
      have : rows0.getD i undef = u := by rw [List.getD_eq_getElem?_getD, List.getElem?_eq_getElem hi]; exact e
      rw [this] at e2
      subst e2
      rfl
  have HC2 : Hid (∀ W, Below w.heap.size w W → Calls Try.prog 9 #[.slice (some ⟨br0, or0, none⟩) f.refs.length cr0] W fun e w' => ∃ g cap, e = .returned (.slice (some ⟨g, 0, none⟩) f.refs.length cap) ∧ w'.ownsRow W.heap.size 3 1 (.slice (some ⟨g, 0, none⟩) f.refs.length cap) f.refs.length (ints f.refs) ∧ Below W.heap.size W w') := by
    intro W hW
    obtain ⟨A, c, e, h2, h3, h4, h5, h6, h7⟩ := HR.out.below hW
    cases e
    refine clone_int_at br0 or0 f.refs.length cr0 (ints f.refs) W (ints_len _) (fun j x hx => ?_) (one_ints _) (by omega)
    have hj : j < f.refs.length := by
      rcases Nat.lt_or_ge j f.refs.length with h | h
      · exact h
      · rw [List.getElem?_eq_none (by rw [ints_len]; exact h)] at hx; cases hx
    obtain ⟨b', o', e, _, hc⟩ := h7 (by omega)
    cases e
    exact hc j x hx
  obtain ⟨n, hnn⟩ : ∃ n, f.data.length = n := ⟨_, rfl⟩
  obtain ⟨m, hmm⟩ : ∃ m, f.refs.length = m := ⟨_, rfl⟩
  rw [hnn] at hn HC1 ⊢
  rw [hmm] at hm HC2 ⊢
  have HN := Lib.hid hnn
  have HM := Lib.hid hmm
  clear hnn hmm
  go_enter Try.func25, Try.ntmps25
  go_upto_region 1 with fail
  go_cut [] (fun wc => ∃ g1 cap1 g2 cap2, g1 ≠ g2 ∧ Below w.heap.size w wc ∧
      Blk wc w.heap.size 40 #[.slice (some ⟨g1, 0, none⟩) n cap1, .slice (some ⟨g2, 0, none⟩) m cap2] ∧ Blk wc (w.heap.size + 1) 40 #[.slice none 0 0, .slice none 0 0] ∧
      wc.ownsRow (w.heap.size + 2) 24 1 (.slice (some ⟨g1, 0, none⟩) n cap1) n rows0 ∧ wc.ownsRow (w.heap.size + 2) 3 1 (.slice (some ⟨g2, 0, none⟩) m cap2) m (ints f.refs))
  case first =>
    go_region_with (first | (go_at_call 27; refine Calls.mono (HC1.out _ (by go_grown)) ?_; rintro e w1 ⟨g1, cap1, rfl, hown1, hb1⟩; obtain ⟨hcl1, hfr1⟩ := bcell hb1; have hz1 : w.heap.size + 1 < w1.heap.size := (by have := hb1.size; simp at this; omega); have hz1' : w.heap.size < w1.heap.size := (by omega)) | (go_at_call 9; refine Calls.mono (HC2.out _ (below_up' (by go_grown) hb1)) ?_; rintro e w2 ⟨g2, cap2, rfl, hown2, hb2⟩; obtain ⟨hcl2, hfr2⟩ := bcell hb2))
    all_goals (go_wp2_with fail; go_meet)
    all_goals exact ⟨g1, cap1, g2, cap2, copy_rel (((Below.refl _ _).alloc (Nat.le_refl _) _).alloc (by simp) _).drew ((Blk.at_alloc _ _ _).alloc _) (Blk.at_alloc2 _ _ _ _) hb1 hown1 hb2 hown2⟩
  case rest =>
    obtain ⟨g1, cap1, g2, cap2, hne, hbel, hbox, hout, hdata, hrefs⟩ := hcut
    have HA : Hid (CopyAt w wc f rows0 n m g1 cap1 g2 cap2 0 []) := ⟨rfl, hbel, hbox, hout, hne, hdata, hrefs, fun i hi => by omega, fun i hi => by omega, fun i j hi => by omega⟩
    have hb1 := hbox.cell
    clear hbel hbox hout hne hdata hrefs
    have hc0 := hb1 0
    have hc1 := hb1 1
    clear hb1
    simp at hc0 hc1
    go_wp2_with fail
    clear hc0 hc1
    go_loopw [15] (fun i wr => ∃ (k : Nat) (rows : List Value), k ≤ n ∧ i = .int .i64 k ∧ Hid (CopyAt w wr f rows0 n m g1 cap1 g2 cap2 k rows)) (fun i _ => n - (intOf i).toNat)
    case atStart => exact ⟨0, [], Nat.zero_le _, rfl, HA⟩
    case round =>
      obtain ⟨k, rows, hk, rfl, HK⟩ := hrel
      by_cases hlt : k < n
      · have hl0 : rows0.length = n := HW.out.1.trans HN.out
        have hbx := HK.out.box.cell 0
        have hdx := HK.out.data.cellAt k (by omega)
        have hrow0 : (rows ++ rows0.drop k)[k]? = some (rows0.getD k undef) := by
          rw [List.getElem?_append_right (by rw [HK.out.len]; omega), HK.out.len, Nat.sub_self, List.getElem?_drop]
          exact getD_some rows0 k undef (by omega)
        rw [hrow0] at hdx
        simp at hbx
        have HCk := Lib.hid (clone_int_rd p (rows0.getD k undef) (f.data.getD k []) w wr.drew (HW.out.2 k (by rw [HN.out]; exact hlt)) HK.out.below.drew (by have := hrow k (by rw [HN.out]; exact hlt); omega))
        obtain ⟨dk, hdk⟩ : ∃ d, f.data.getD k [] = d := ⟨_, rfl⟩
        rw [hdk] at HCk
        have HDK := Lib.hid hdk
        have HL := Lib.hid hl0
        clear hl0 hrow0 hdk
        generalize rows0.getD k undef = rk at *
        have hfz := HK.out.data.frozenAt k
        have hg1z := (HK.out.data.lt g1 rfl).2
        have hbz := HK.out.box.lt
        go_wp2_with fail
        go_region_with (first | (go_at_call 9; refine Calls.mono HCk.out ?_; rintro e w1 ⟨A1, c1, rfl, hown1, hb1⟩; obtain ⟨hcl1, hfr1⟩ := bcell (below_drew' hb1)))
        all_goals
          go_wp2_with fail
          go_roundw
          case rel => exact ⟨k + 1, rows ++ [.slice A1 dk.length c1], by omega, by go_num, Lib.hid (HK.out.step hlt HL.out (below_drew' hb1) (by rw [HDK.out]; exact hown1))⟩
          case measure => simp [intOf]; omega
      · have hkn : k = n := by omega
        subst hkn
        have hx0 := HK.out.box.cell 0
        have hx1 := HK.out.box.cell 1
        have hy0 := HK.out.out.cell 0
        have hy1 := HK.out.out.cell 1
        have hz0 := HK.out.out.frozen 0
        have hz1 := HK.out.out.frozen 1
        simp at hx0 hx1 hy0 hy1
        go_wp2_with fail
        refine bodyPost_ret (v := .agg #[.slice (some ⟨g1, 0, none⟩) k cap1, .slice (some ⟨g2, 0, none⟩) m cap2]) ?_ rfl ?_
        · simp [results, Try.results25, go_sem, hy0, hy1]
        exact ⟨g1, cap1, g2, cap2, rows, rfl, (((HK.out.done (HW.out.1.trans HN.out) HN.out HM.out).other (by simp) _).other (by simp) _).base (by omega), (HK.out.below.setCell (by simp) _).setCell (by simp) _⟩
end Go.Proofs.Ytipppemkcbgecaa
