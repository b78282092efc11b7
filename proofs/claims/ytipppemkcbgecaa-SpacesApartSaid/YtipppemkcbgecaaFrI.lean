/- frames.Write of a frame that several know. -/
import Derived.Test.YtipppemkcbgecaaFrH
open Go Go.RowKit
namespace Go.Proofs.Ytipppemkcbgecaa
set_option maxRecDepth 100000
/-- What Write does then. -/
def Fr.part (f : Fr) (n i : Nat) : Fr := ((f.setRef n (f.refs.getD n 0 - 1)).setRef i 1).setRow i (f.data.getD n [])
theorem part_rel {w5 w6 : World} {lo : Nat} {f : Fr} {y : Int} {n i bd cd br cr g cg : Nat} {rows : List Value} (H5 : OwnFr w5 lo (f.setRef n y) bd cd br cr rows) (hlo : lo ≤ w5.heap.size) (hi : i < f.data.length) (hb : Below w5.heap.size w5 w6)
    (hown : w6.ownsRow w5.heap.size 3 1 (.slice (some ⟨g, 0, none⟩) 16 cg) 16 (ints (f.data.getD n []))) (h16 : (f.data.getD n []).length = 16) :
    OwnFr ((w6.setCell ⟨br, i, none⟩ (.int .i64 1)).setCell ⟨bd, i, none⟩ (.slice (some ⟨g, 0, none⟩) 16 cg)) lo (((f.setRef n y).setRef i 1).setRow i (f.data.getD n [])) bd cd br cr (rows.set i (.slice (some ⟨g, 0, none⟩) 16 cg)) := by
  have hg := (hown.lt g rfl).1
  have l1 := (H5.data.lt bd rfl).2
  have l2 := (H5.refs.lt br rfl).2
  have O6 := (H5.below hb).setRef i 1
  refine O6.setRow i hi _ _ ?_ (fun b hb' => ?_)
  · rw [h16]
    exact ownsRow_setCell_other (own_base_le hown hlo) (by simp [Value.ownBlock]; omega) _
  · simp [Value.ownBlock] at hb'
    subst hb'
    refine ⟨by omega, by omega, fun j hj _ he => ?_⟩
    have := ((H5.row j hj).lt _ he).2
    omega
theorem part_row {f : Fr} {n i : Nat} (hi : i < f.data.length) : (f.part n i).data.getD i [] = f.data.getD n [] := by
  have : (f.part n i).data = f.data.set i (f.data.getD n []) := rfl
  rw [this, getD_set _ _ _ _ _ hi, if_pos rfl]
set_option maxHeartbeats 4000000 in
theorem frWrite_many (p : Nat → Prop) (v : Value) (f : Fr) (w : World) (n k : Nat) (x : Int) (h : RdFr p w v f) (hok : f.Ok) (hn : n < f.refs.length) (hne : 1 < f.refs.getD n 0) (hk : k < 16) :
    Calls Try.prog 20 #[v, .int .i64 n, .int .i64 k, .int .i64 x] w fun e w' =>
      (idx f.refs 0 < 0 ∧ e = .returned (.tuple #[.agg #[.slice none 0 0, .slice none 0 0], .int .i64 0, .int .i64 7]) ∧ Below w.heap.size w w') ∨
      (∃ v' i, idx f.refs 0 = Int.ofNat i ∧ e = .returned (.tuple #[v', .int .i64 i, .int .i64 0]) ∧ RdFr (fun b => w.heap.size ≤ b) w' v' ((f.part n i).setRow i ((f.data.getD n []).set k x)) ∧ Below w.heap.size w w') := by
  have HF := Lib.hid h
  have HO := Lib.hid hok
  obtain ⟨bd0, od0, cd0, br0, or0, cr0, rows0, rfl, hd, hr, hrows⟩ := h
  have HN := Lib.hid hn
  have HNE : Hid (f.refs.getD n 0 ≠ 0) := Lib.hid (by omega)
  have hl16 := Lib.hid (hok.known n hn HNE.out)
  have hmost := hok.most
  have hyb := (hok.refs n hn).2
  clear hd hr hrows
  obtain ⟨nd, hnd⟩ : ∃ n, f.data.length = n := ⟨_, rfl⟩
  obtain ⟨nr, hnr⟩ : ∃ n, f.refs.length = n := ⟨_, rfl⟩
  have hn2 : n < nd := by rw [← hnd, hok.len]; exact hn
  have HDR : Hid (nd = nr) := Lib.hid (by rw [← hnd, hok.len, hnr])
  clear hok
  rw [hnr] at hn hmost
  rw [hnd, hnr]
  rw [hnd, hnr] at HF
  obtain ⟨y, hy⟩ : ∃ y, f.refs.getD n 0 = y := ⟨_, rfl⟩
  rw [hy] at hne hyb
  have hyd : decide (1 < y) = true := decide_eq_true hne
  have hwr : IntKind.i64.wrap (y - 1) = y - 1 := i64w _ (by omega) (by omega)
  have HND := Lib.hid hnd
  have HNR := Lib.hid hnr
  have HY := Lib.hid hy
  clear hnd hnr hy
  go_enter Try.func20, Try.ntmps20
  go_upto_region 7 with (
       go_at_call 26
       refine (frKnown_at p _ _ nd nr _ _ f _ n (HF.out.below (by go_grown)) HO.out HN.out HNE.out HND.out HNR.out).mono ?_
       rintro e w1 ⟨bd, cd, br, cr, rows, rfl, hown, hw1⟩
       have l2 := hown.refs.lt br rfl
       have l1 := hown.data.lt bd rfl
       have hz1 : w.heap.size + 1 < w1.heap.size := (by have := hw1.size; simp at this; omega)
       have hz1' : w.heap.size < w1.heap.size := (by omega)
       simp at l1 l2
       have b1 : bd < w1.heap.size := l1.2
       have b2 : br < w1.heap.size := l2.2
       have m1 : w.heap.size ≠ br := (by omega)
       have m3 : w.heap.size ≠ bd := (by omega)
       have c2 := hown.refs.cellAt n (by rw [HNR.out]; omega)
       rw [ints_at f.refs n HN.out, HY.out] at c2
       have K := ((Blk.at_alloc w 40 #[.slice (some ⟨bd0, od0, none⟩) nd cd0, .slice (some ⟨br0, or0, none⟩) nr cr0]).alloc (.cells #[.slice none 0 0, .slice none 0 0] 40)).below hw1
       have K' := (Blk.at_alloc2 w (.cells #[.slice (some ⟨bd0, od0, none⟩) nd cd0, .slice (some ⟨br0, or0, none⟩) nr cr0] 40) 40 #[.slice none 0 0, .slice none 0 0]).below hw1
       have k0 := K.cell 0
       have k1 := K.cell 1
       have g0 := K.frozen 0
       have g1 := K.frozen 1
       simp at k0 k1
       have HK := Lib.hid K
       have HK' := Lib.hid K'
       clear l1 l2 K K')
  have O4 := ((hown.other (a := ⟨w.heap.size, 0, none⟩) (by simp; omega) (.slice (some ⟨bd, 0, none⟩) nd cd)).other (a := ⟨w.heap.size, 1, none⟩) (by simp; omega) (.slice (some ⟨br, 0, none⟩) nr cr)).base (lo' := w.heap.size + 2) (by simp)
  have K4 := (HK.out.set 0 (.slice (some ⟨bd, 0, none⟩) nd cd)).set 1 (.slice (some ⟨br, 0, none⟩) nr cr)
  have K5 := (HK'.out.other (a := ⟨w.heap.size, 0, none⟩) (by simp) (.slice (some ⟨bd, 0, none⟩) nd cd)).other (a := ⟨w.heap.size, 1, none⟩) (by simp) (.slice (some ⟨br, 0, none⟩) nr cr)
  have B4 : Below w.heap.size w ((w1.setCell ⟨w.heap.size, 0, none⟩ (.slice (some ⟨bd, 0, none⟩) nd cd)).setCell ⟨w.heap.size, 1, none⟩ (.slice (some ⟨br, 0, none⟩) nr cr)) := ((below_up' (by go_grown) hw1).setCell (by simp) _).setCell (by simp) _
  generalize (w1.setCell ⟨w.heap.size, 0, none⟩ (.slice (some ⟨bd, 0, none⟩) nd cd)).setCell ⟨w.heap.size, 1, none⟩ (.slice (some ⟨br, 0, none⟩) nr cr) = w4 at *
  clear c2 k0 k1 g0 g1 hz1 hz1' hown b1 b2 hw1 HK HK' m1 m3
  have HIX : Hid (Calls Try.prog 24 #[.slice (some ⟨br, 0, none⟩) nr cr, .int .i64 0] w4 fun e w' => e = .returned (.int .i64 (idx f.refs 0)) ∧ w4 = w') := by
    have := index_int (fun b => w.heap.size + 2 ≤ b) (.slice (some ⟨br, 0, none⟩) f.refs.length cr) f.refs 0 w4 (rd_of_own O4.refs)
    rw [HNR.out] at this
    exact this
  have l1 := O4.data.lt bd rfl
  have l2 := O4.refs.lt br rfl
  have b1 : bd < w4.heap.size := l1.2
  have b2 : br < w4.heap.size := l2.2
  have m0 : bd ≠ br := O4.ne
  have m1 : w.heap.size ≠ br := (by omega)
  have m2 : w.heap.size + 1 ≠ br := (by omega)
  have m3 : w.heap.size ≠ bd := (by omega)
  have m4 : w.heap.size + 1 ≠ bd := (by omega)
  have z1 : w.heap.size < w4.heap.size := K4.lt
  have z2 : w.heap.size + 1 < w4.heap.size := K5.lt
  have k0 := K4.cell 0
  have k1 := K4.cell 1
  have k2 := K5.cell 0
  have k3 := K5.cell 1
  have g0 := K4.frozen 0
  have g1 := K4.frozen 1
  have g2 := K5.frozen 0
  have g3 := K5.frozen 1
  simp at k0 k1 k2 k3
  have c2 := O4.refs.cellAt n (by rw [HNR.out]; omega)
  have f2 := O4.refs.frozenAt n
  rw [ints_at f.refs n HN.out, HY.out] at c2
  have HO4 := Lib.hid O4
  have HK4 := Lib.hid K4
  have HK5 := Lib.hid K5
  have HB4 := Lib.hid B4
  clear O4 K4 K5 B4 l1 l2
  rcases Int.lt_or_le (idx f.refs 0) 0 with hi | hi
  · obtain ⟨z, hz⟩ : ∃ z, idx f.refs 0 = z := ⟨_, rfl⟩
    have HZ := Lib.hid hz
    rw [hz] at hi
    have hid : decide (z < 0) = true := decide_eq_true hi
    clear hz
    go_wp2_with (
       go_at_call 24
       refine HIX.out.mono ?_
       rintro e w2 ⟨rfl, rfl⟩
       rw [HZ.out])
    have K6 := (HK5.out.set 0 (.slice none 0 0)).set 1 (.slice none 0 0)
    have c5 := K6.cell 0
    have c6 := K6.cell 1
    simp at c5 c6
    refine bodyPost_ret (v := .tuple #[.agg #[.slice none 0 0, .slice none 0 0], .int .i64 0, .int .i64 7]) ?_ rfl (.inl ⟨by rw [HZ.out]; exact hi, rfl, ?_⟩)
    · simp [results, Try.results20, go_sem, c5, c6]
    · exact (HB4.out.setCell (by simp) _).setCell (by simp) _
  · obtain ⟨i, hz, hin, _, _⟩ := idx_at f.refs 0 hi
    have HZ := Lib.hid hz
    have HIN := Lib.hid hin
    rw [HNR.out] at hin
    have hin2 : i < nd := by rw [HDR.out]; exact hin
    clear hz hi
    go_upto_region 11 with (
       go_at_call 24
       refine HIX.out.mono ?_
       rintro e w2 ⟨rfl, rfl⟩
       rw [HZ.out])
    have O5 := HO4.out.setRef n (y - 1)
    have K5 := HK4.out.other (a := ⟨br, n, none⟩) (by simpa using m1) (.int .i64 (y - 1))
    have K6 := HK5.out.other (a := ⟨br, n, none⟩) (by simpa using m2) (.int .i64 (y - 1))
    have B5 : Below w.heap.size w (w4.setCell ⟨br, n, none⟩ (.int .i64 (y - 1))) := HB4.out.setCell (by have := (HO4.out.refs.lt br rfl).1; simp; omega) _
    generalize w4.setCell ⟨br, n, none⟩ (.int .i64 (y - 1)) = w5 at *
    clear c2 k0 k1 k2 k3 g0 g1 g2 g3 f2 b1 b2 z1 z2
    have hrow := O5.row n (by show n < f.data.length; rw [HND.out]; exact hn2)
    have hl5 : ((f.setRef n (y - 1)).data.getD n []).length = 16 := hl16.out
    obtain ⟨gn, cn, hgn, _, hcn2⟩ := own_slice hrow (by rw [hl5]; omega)
    rw [hl5] at hgn
    rw [hgn, hl5] at hrow
    have HCL : Hid (∀ W, Below w5.heap.size w5 W → Calls Try.prog 9 #[.slice (some ⟨gn, 0, none⟩) 16 cn] W fun e w' => ∃ g cap, e = .returned (.slice (some ⟨g, 0, none⟩) 16 cap) ∧ w'.ownsRow W.heap.size 3 1 (.slice (some ⟨g, 0, none⟩) 16 cap) 16 (ints (f.data.getD n [])) ∧ Below W.heap.size W w') :=
      Lib.hid (fun W hW => clone_int_at gn 0 16 cn (ints (f.data.getD n [])) W (by rw [ints_len]; exact hl16.out) (fun j x hx => by
        have := (own_below hrow hW).cells (g := gn) rfl j x hx
        rw [add_at] at this
        exact this) (one_ints _) (by omega))
    have l1 := O5.data.lt bd rfl
    have l2 := O5.refs.lt br rfl
    have b1 : bd < w5.heap.size := l1.2
    have b2 : br < w5.heap.size := l2.2
    have z1 : w.heap.size < w5.heap.size := K5.lt
    have z2 : w.heap.size + 1 < w5.heap.size := K6.lt
    have k0 := K5.cell 0
    have k1 := K5.cell 1
    simp at k0 k1
    have hr5 : rows.length = nd := by have := O5.data.1; rw [show (f.setRef n (y - 1)).data.length = nd from HND.out] at this; omega
    have hrf : (f.setRef n (y - 1)).refs.length = nr := by simp [Fr.setRef, HNR.out]
    have c3 := O5.data.cellAt n (by rw [show (f.setRef n (y - 1)).data.length = nd from HND.out]; omega)
    rw [getD_some rows n undef (by omega), hgn] at c3
    have c4 := O5.data.cellAt i (by rw [show (f.setRef n (y - 1)).data.length = nd from HND.out]; omega)
    rw [getD_some rows i undef (by omega)] at c4
    obtain ⟨z4, hz4⟩ : ∃ z, rows.getD i undef = z := ⟨_, rfl⟩
    rw [hz4] at c4
    have c5 := O5.refs.cellAt i (by rw [hrf]; omega)
    rw [ints_at _ i (by rw [hrf]; exact hin)] at c5
    obtain ⟨z5, hz5⟩ : ∃ z, (f.setRef n (y - 1)).refs.getD i 0 = z := ⟨_, rfl⟩
    rw [hz5] at c5
    have f4 := O5.data.frozenAt i
    have f5 := O5.refs.frozenAt i
    have HO5 := Lib.hid O5
    have HK5' := Lib.hid K5
    have HK6 := Lib.hid K6
    have HB5 := Lib.hid B5
    have HR5 := Lib.hid hr5
    clear O5 K5 K6 B5 l1 l2 hrow hgn hz4 hz5 hrf hr5 hl5 HK5 HK4 HB4 HO4 HIX
    go_cut [] (fun wc => ∃ rows' g cg, OwnFr wc (w.heap.size + 2) (f.part n i) bd cd br cr rows' ∧ rows'.getD i undef = .slice (some ⟨g, 0, none⟩) 16 cg ∧ 16 ≤ cg ∧ cg ≤ maxLen ∧
      Blk wc w.heap.size 40 #[.slice (some ⟨bd, 0, none⟩) nd cd, .slice (some ⟨br, 0, none⟩) nr cr] ∧ Blk wc (w.heap.size + 1) 40 #[.slice none 0 0, .slice none 0 0] ∧ Below w.heap.size w wc)
    case first =>
      go_region_with (
        go_at_call 9
        refine Calls.mono (HCL.out _ (by go_grown)) ?_
        rintro e w6 ⟨g, cg, rfl, hown2, hb6⟩
        obtain ⟨hcl6, hfr6⟩ := bcell hb6
        have z6 := hb6.size
        have b1' : bd < w6.heap.size := (by simp at z6; omega)
        have b2' : br < w6.heap.size := (by simp at z6; omega)
        have q4 : w6.cell? ⟨bd, i, none⟩ = some z4 := (by rw [hcl6 bd i (by simpa using b1)]; simpa using c4)
        have q5 : w6.cell? ⟨br, i, none⟩ = some (.int .i64 z5) := (by rw [hcl6 br i (by simpa using b2)]; simpa using c5)
        have r4 : w6.frozen? ⟨bd, i, none⟩ = false := (by rw [hfr6 bd i (by simpa using b1)]; simpa using f4)
        have r5 : w6.frozen? ⟨br, i, none⟩ = false := (by rw [hfr6 br i (by simpa using b2)]; simpa using f5)
        have q0 : w6.cell? ⟨w.heap.size, 0, none⟩ = some (.slice (some ⟨bd, 0, none⟩) nd cd) := (by rw [hcl6 _ 0 (by simpa using z1)]; simpa using k0)
        have q1 : w6.cell? ⟨w.heap.size, 1, none⟩ = some (.slice (some ⟨br, 0, none⟩) nr cr) := (by rw [hcl6 _ 1 (by simpa using z1)]; simpa using k1)
        clear hcl6 hfr6)
      all_goals (go_wp2_with fail; go_meet)
      all_goals exact ⟨_, g, cg, part_rel (by rw [HY.out]; exact HO5.out) (by omega) (by rw [HND.out]; exact hin2) (below_drew' hb6) hown2 hl16.out, by rw [getD_set _ _ _ _ _ (by rw [HR5.out]; exact hin2), if_pos rfl], (own_slice hown2 (by decide)).elim fun _ ⟨_, e, h1, _⟩ => by cases e; exact h1, (own_slice hown2 (by decide)).elim fun _ ⟨_, e, _, h2⟩ => by cases e; exact h2,
        ((HK5'.out.below (below_drew' hb6)).other (by simpa using m1) _).other (by simpa using m3) _, ((HK6.out.below (below_drew' hb6)).other (by simpa using m2) _).other (by simpa using m4) _,
        ((below_up' HB5.out (below_drew' hb6)).setCell (by have := (HO5.out.refs.lt br rfl).1; simp; omega) _).setCell (by have := (HO5.out.data.lt bd rfl).1; simp; omega) _⟩
    case rest =>
      obtain ⟨rows', g, cg, O7, hg, hcg, hcg2, K7, K7', B7⟩ := hcut
      clear c3 c4 c5 f4 f5 k0 k1 b1 b2 z1 z2
      have hdl : (f.part n i).data.length = nd := by simp [Fr.part, Fr.setRow, Fr.setRef, HND.out]
      have hrl : (f.part n i).refs.length = nr := by simp [Fr.part, Fr.setRow, Fr.setRef, HNR.out]
      have hpr : (f.part n i).data.getD i [] = f.data.getD n [] := part_row (by rw [HND.out]; exact hin2)
      have hrow := O7.row i (by rw [hdl]; exact hin2)
      rw [hpr, hl16.out, hg] at hrow
      have l1 := O7.data.lt bd rfl
      have l3 := hrow.lt g rfl
      have c3 := O7.data.cellAt i (by rw [hdl]; omega)
      have hrn : rows'.length = nd := by have := O7.data.1; rw [hdl] at this; omega
      rw [getD_some rows' i undef (by omega), hg] at c3
      have c4 := hrow.cellAt k (by omega)
      have f4 := hrow.frozenAt k
      rw [ints_at _ k (by rw [hl16.out]; omega)] at c4
      obtain ⟨q, hq⟩ : ∃ y, (f.data.getD n []).getD k 0 = y := ⟨_, rfl⟩
      rw [hq] at c4
      have k0 := K7.cell 0
      have k1 := K7.cell 1
      have k2 := K7'.cell 0
      have k3 := K7'.cell 1
      have g2 := K7'.frozen 0
      have g3 := K7'.frozen 1
      simp at k0 k1 k2 k3
      have n1 : w.heap.size ≠ g := by omega
      have n2 : w.heap.size + 1 ≠ g := by omega
      have b1 : bd < wc.heap.size := l1.2
      have b3 : g < wc.heap.size := l3.2
      have LE : Hid (w.heap.size ≤ g) := Lib.hid (by omega)
      have HG := Lib.hid hg
      have HDL := Lib.hid hdl
      have HRL := Lib.hid hrl
      have HPR := Lib.hid hpr
      have HB7 := Lib.hid B7
      have HK7 := Lib.hid K7'
      have HO7 := Lib.hid O7
      clear hdl hrl hpr hrow l1 l3 hrn hg hq B7 K7 K7' O7
      go_wp2_with fail
      have K6 := ((((HK7.out).other (a := ⟨g, k, none⟩) (by simpa using n2) (.int .i64 x)).set 0 (.slice (some ⟨bd, 0, none⟩) nd cd)).set 1 (.slice (some ⟨br, 0, none⟩) nr cr))
      have d5 := K6.cell 0
      have d6 := K6.cell 1
      simp at d5 d6
      have O5 := ((HO7.out.setWord i (by rw [HDL.out]; exact hin2) g cg (by rw [HPR.out, hl16.out]; exact HG.out) k x).other (a := ⟨w.heap.size + 1, 0, none⟩) (by simp) (.slice (some ⟨bd, 0, none⟩) nd cd)).other (a := ⟨w.heap.size + 1, 1, none⟩) (by simp) (.slice (some ⟨br, 0, none⟩) nr cr)
      refine bodyPost_ret (v := .tuple #[.agg #[.slice (some ⟨bd, 0, none⟩) nd cd, .slice (some ⟨br, 0, none⟩) nr cr], .int .i64 i, .int .i64 0]) ?_ rfl (.inr ⟨_, i, HZ.out, rfl, ?_, ?_⟩)
      · simp [results, Try.results20, go_sem, d5, d6]
      · have R := O5.reads.mono (q := fun b => w.heap.size ≤ b) (fun b hb => by omega)
        rw [HPR.out] at R
        have e1 : ((f.part n i).setRow i ((f.data.getD n []).set k x)).data.length = nd := by simp [Fr.setRow, HDL.out]
        have e2 : ((f.part n i).setRow i ((f.data.getD n []).set k x)).refs.length = nr := by simp [Fr.setRow, HRL.out]
        rw [e1, e2] at R
        exact R
      · exact ((HB7.out.setCell (by simpa using LE.out) _).setCell (by simp) _).setCell (by simp) _
end Go.Proofs.Ytipppemkcbgecaa
