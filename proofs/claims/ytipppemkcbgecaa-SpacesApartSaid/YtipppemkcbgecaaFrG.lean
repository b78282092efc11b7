/- frames.Share of a frame that somebody knows. -/
import Derived.Test.YtipppemkcbgecaaFrF
open Go Go.RowKit
namespace Go.Proofs.Ytipppemkcbgecaa
theorem frKnown_at (p : Nat → Prop) (A B : Option Addr) (nd nr cd0 cr0 : Nat) (f : Fr) (W : World) (n : Nat) (h : RdFr p W (.agg #[.slice A nd cd0, .slice B nr cr0]) f) (hok : f.Ok) (hn : n < f.refs.length) (hne : f.refs.getD n 0 ≠ 0) (hnd : f.data.length = nd) (hnr : f.refs.length = nr) :
    Calls Try.prog 26 #[.agg #[.slice A nd cd0, .slice B nr cr0], .int .i64 n] W fun e w' => ∃ bd cd br cr rows, e = .returned (.tuple #[.agg #[.slice (some ⟨bd, 0, none⟩) nd cd, .slice (some ⟨br, 0, none⟩) nr cr], .int .i64 0]) ∧ OwnFr w' W.heap.size f bd cd br cr rows ∧ Below W.heap.size W w' := by
  have := frKnown_ok p _ f W n h hok hn hne
  rw [hnd, hnr] at this
  exact this
theorem i64w (x : Int) (h1 : -9223372036854775808 ≤ x) (h2 : x ≤ 9223372036854775807) : IntKind.i64.wrap x = x := IntWalk.i64_in x ⟨h1, h2⟩
set_option maxRecDepth 100000
set_option maxHeartbeats 1000000 in
theorem frShare_ok (p : Nat → Prop) (v : Value) (f : Fr) (w : World) (n : Nat) (h : RdFr p w v f) (hok : f.Ok) (hn : n < f.refs.length) (hne : f.refs.getD n 0 ≠ 0) (hlt : f.refs.getD n 0 < 200) :
    Calls Try.prog 21 #[v, .int .i64 n] w fun e w' => ∃ v', e = .returned (.tuple #[v', .int .i64 0]) ∧ RdFr (fun b => w.heap.size ≤ b) w' v' (f.setRef n (f.refs.getD n 0 + 1)) ∧ Below w.heap.size w w' := by
  have HF := Lib.hid h
  have HO := Lib.hid hok
  obtain ⟨bd0, od0, cd0, br0, or0, cr0, rows0, rfl, hd, hr, hrows⟩ := h
  have HN := Lib.hid hn
  have HNE := Lib.hid hne
  have hmost := hok.most
  have hy0 := (hok.refs n hn).1
  clear hd hr hrows hok hne
  obtain ⟨nd, hnd⟩ : ∃ n, f.data.length = n := ⟨_, rfl⟩
  obtain ⟨nr, hnr⟩ : ∃ n, f.refs.length = n := ⟨_, rfl⟩
  rw [hnr] at hn hmost
  rw [hnd, hnr]
  rw [hnd, hnr] at HF
  obtain ⟨y, hy⟩ : ∃ y, f.refs.getD n 0 = y := ⟨_, rfl⟩
  rw [hy] at hlt hy0 ⊢
  have hwr : IntKind.i64.wrap (y + 1) = y + 1 := i64w _ (by omega) (by omega)
  have hyz : (y == 200) = false := beq_eq_false_iff_ne.2 (by omega)
  have HND := Lib.hid hnd
  have HNR := Lib.hid hnr
  have HY := Lib.hid hy
  clear hnd hnr hy
  go_enter Try.func21, Try.ntmps21
  go_wp2_with (
       go_at_call 26
       (
       refine (frKnown_at p _ _ nd nr _ _ f _ n (HF.out.below (by go_grown)) HO.out HN.out HNE.out HND.out HNR.out).mono ?_
       rintro e w1 ⟨bd, cd, br, cr, rows, rfl, hown, hw1⟩
       obtain ⟨hcl1, hfr1⟩ := bcell hw1
       have hz1 : w.heap.size + 1 < w1.heap.size := (by have := hw1.size; simp at this; omega)
       have hz1' : w.heap.size < w1.heap.size := (by omega)
       have l2 := hown.refs.lt br rfl
       have l1 := hown.data.lt bd rfl
       simp at l1 l2
       have b1 : bd < w1.heap.size := l1.2
       have b2 : br < w1.heap.size := l2.2
       have m1 : w.heap.size ≠ br := (by omega)
       have m2 : w.heap.size + 1 ≠ br := (by omega)
       have c2 := hown.refs.cellAt n (by rw [HNR.out]; omega)
       have f2 := hown.refs.frozenAt n
       rw [ints_at f.refs n HN.out, HY.out] at c2
       have K := ((Blk.at_alloc w 40 #[.slice (some ⟨bd0, od0, none⟩) nd cd0, .slice (some ⟨br0, or0, none⟩) nr cr0]).alloc (.cells #[.slice none 0 0, .slice none 0 0] 40)).below hw1
       have K' := (Blk.at_alloc2 w (.cells #[.slice (some ⟨bd0, od0, none⟩) nd cd0, .slice (some ⟨br0, or0, none⟩) nr cr0] 40) 40 #[.slice none 0 0, .slice none 0 0]).below hw1
       have k0 := K.cell 0
       have k1 := K.cell 1
       have k2 := K'.cell 0
       have k3 := K'.cell 1
       have g0 := K.frozen 0
       have g1 := K.frozen 1
       have g2 := K'.frozen 0
       have g3 := K'.frozen 1
       simp at k0 k1 k2 k3
       have HK' := Lib.hid K'
       clear l1 l2 K K' hcl1 hfr1))
  have K6 := (((((HK'.out.other (a := ⟨w.heap.size, 0, none⟩) (by simp) (.slice (some ⟨bd, 0, none⟩) nd cd)).other (a := ⟨w.heap.size, 1, none⟩) (by simp) (.slice (some ⟨br, 0, none⟩) nr cr)).other (a := ⟨br, n, none⟩) (by simpa using m2) (.int .i64 (y + 1))).set 0 (.slice (some ⟨bd, 0, none⟩) nd cd)).set 1 (.slice (some ⟨br, 0, none⟩) nr cr))
  have c5 := K6.cell 0
  have c6 := K6.cell 1
  simp at c5 c6
  have O5 := ((((hown.other (a := ⟨w.heap.size, 0, none⟩) (by simp; omega) (.slice (some ⟨bd, 0, none⟩) nd cd)).other (a := ⟨w.heap.size, 1, none⟩) (by simp; omega) (.slice (some ⟨br, 0, none⟩) nr cr)).setRef n (y + 1)).other (a := ⟨w.heap.size + 1, 0, none⟩) (by simp) (.slice (some ⟨bd, 0, none⟩) nd cd)).other (a := ⟨w.heap.size + 1, 1, none⟩) (by simp) (.slice (some ⟨br, 0, none⟩) nr cr)
  have hbr : w.heap.size ≤ br := by have := (hown.refs.lt br rfl).1; simp at this; omega
  refine bodyPost_ret (v := .tuple #[.agg #[.slice (some ⟨bd, 0, none⟩) nd cd, .slice (some ⟨br, 0, none⟩) nr cr], .int .i64 0]) ?_ rfl ⟨_, rfl, ?_, ?_⟩
  · simp [results, Try.results21, go_sem, c5, c6]
  · have R := O5.reads.mono (q := fun b => w.heap.size ≤ b) (fun b hb => by simp at hb; omega)
    have e1 : (f.setRef n (y + 1)).data.length = nd := by simp [Fr.setRef, HND.out]
    have e2 : (f.setRef n (y + 1)).refs.length = nr := by simp [Fr.setRef, HNR.out]
    rw [e1, e2] at R
    exact R
  · exact (((((below_up' (by go_grown) hw1).setCell (by simp) _).setCell (by simp) _).setCell (by simpa using hbr) _).setCell (by simp) _).setCell (by simp) _
end Go.Proofs.Ytipppemkcbgecaa
