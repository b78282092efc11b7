/- frames.Write of a frame that one knows. -/
import Derived.Test.YtipppemkcbgecaaFrG
open Go Go.RowKit
namespace Go.Proofs.Ytipppemkcbgecaa
/-- A row that is not empty has a block. -/
theorem own_slice {w : World} {base : Nat} {e : TypeId} {k n : Nat} {v : Value} {xs : List Value} (h : w.ownsRow base e k v n xs) (hn : 0 < n) : ∃ g c, v = .slice (some ⟨g, 0, none⟩) n c ∧ n ≤ c ∧ c ≤ maxLen := by
  rcases h.2 with ⟨rfl, rfl⟩ | ⟨g, cap, cur, e, _, _, h1, h2, _⟩
  · omega
  · exact ⟨g, cap, e, h1, h2⟩
set_option maxRecDepth 100000
set_option maxHeartbeats 1000000 in
theorem frWrite_one (p : Nat → Prop) (v : Value) (f : Fr) (w : World) (n k : Nat) (x : Int) (h : RdFr p w v f) (hok : f.Ok) (hn : n < f.refs.length) (hne : f.refs.getD n 0 = 1) (hk : k < 16) :
    Calls Try.prog 20 #[v, .int .i64 n, .int .i64 k, .int .i64 x] w fun e w' => ∃ v', e = .returned (.tuple #[v', .int .i64 n, .int .i64 0]) ∧ RdFr (fun b => w.heap.size ≤ b) w' v' (f.setRow n ((f.data.getD n []).set k x)) ∧ Below w.heap.size w w' := by
  have HF := Lib.hid h
  have HO := Lib.hid hok
  obtain ⟨bd0, od0, cd0, br0, or0, cr0, rows0, rfl, hd, hr, hrows⟩ := h
  have HN := Lib.hid hn
  have HNE : Hid (f.refs.getD n 0 ≠ 0) := Lib.hid (by rw [hne]; decide)
  have hl16 := Lib.hid (hok.known n hn HNE.out)
  have hmost := hok.most
  clear hd hr hrows
  obtain ⟨nd, hnd⟩ : ∃ n, f.data.length = n := ⟨_, rfl⟩
  obtain ⟨nr, hnr⟩ : ∃ n, f.refs.length = n := ⟨_, rfl⟩
  have hn2 : n < nd := by rw [← hnd, hok.len]; exact hn
  clear hok
  rw [hnr] at hn hmost
  rw [hnd, hnr]
  rw [hnd, hnr] at HF
  have HND := Lib.hid hnd
  have HNR := Lib.hid hnr
  have HY := Lib.hid hne
  clear hnd hnr hne
  go_enter Try.func20, Try.ntmps20
  go_wp2_with (
       go_at_call 26
       refine (frKnown_at p _ _ nd nr _ _ f _ n (HF.out.below (by go_grown)) HO.out HN.out HNE.out HND.out HNR.out).mono ?_
       rintro e w1 ⟨bd, cd, br, cr, rows, rfl, hown, hw1⟩
       obtain ⟨g, cg, hg, hcg, hcg2⟩ := own_slice (hown.row n (by rw [HND.out]; omega)) (by rw [hl16.out]; omega)
       rw [hl16.out] at hg hcg
       have HG := Lib.hid hg
       have l2 := hown.refs.lt br rfl
       have l1 := hown.data.lt bd rfl
       have l3 := (hown.row n (by rw [HND.out]; omega)).lt g (by rw [hg]; rfl)
       have hz1 : w.heap.size + 1 < w1.heap.size := (by have := hw1.size; simp at this; omega)
       have hz1' : w.heap.size < w1.heap.size := (by omega)
       simp at l1 l2 l3
       have b1 : bd < w1.heap.size := l1.2
       have b2 : br < w1.heap.size := l2.2
       have b3 : g < w1.heap.size := l3.2
       have m1 : w.heap.size ≠ br := (by omega)
       have m2 : w.heap.size + 1 ≠ br := (by omega)
       have m3 : w.heap.size ≠ bd := (by omega)
       have m4 : w.heap.size + 1 ≠ bd := (by omega)
       have m5 : w.heap.size ≠ g := (by omega)
       have m6 : w.heap.size + 1 ≠ g := (by omega)
       have c2 := hown.refs.cellAt n (by rw [HNR.out]; omega)
       have f2 := hown.refs.frozenAt n
       rw [ints_at f.refs n HN.out, HY.out] at c2
       have c3 := hown.data.cellAt n (by rw [HND.out]; omega)
       have f3 := hown.data.frozenAt n
       rw [getD_some rows n undef (by have := hown.data.1; rw [HND.out] at this; omega), hg] at c3
       have hrow := hown.row n (by rw [HND.out]; omega)
       rw [hg, hl16.out] at hrow
       have c4 := hrow.cellAt k (by omega)
       have f4 := hrow.frozenAt k
       rw [ints_at _ k (by rw [hl16.out]; omega)] at c4
       obtain ⟨y, hy⟩ : ∃ y, (f.data.getD n []).getD k 0 = y := ⟨_, rfl⟩
       rw [hy] at c4
       have K := ((Blk.at_alloc w 40 #[.slice (some ⟨bd0, od0, none⟩) nd cd0, .slice (some ⟨br0, or0, none⟩) nr cr0]).alloc (.cells #[.slice none 0 0, .slice none 0 0] 40)).below hw1
       have K' := (Blk.at_alloc2 w (.cells #[.slice (some ⟨bd0, od0, none⟩) nd cd0, .slice (some ⟨br0, or0, none⟩) nr cr0] 40) 40 #[.slice none 0 0, .slice none 0 0]).below hw1
       have k0 := K.cell 0
       have k1 := K.cell 1
       have k2 := K'.cell 0
       have k3 := K'.cell 1
       have g0 := K.frozen 0
       have g1 := K.frozen 1
       have g2 := K'.frozen 0
       have g3 := K'.frozen 1
       simp at k0 k1 k2 k3
       have HK' := Lib.hid K'
       have LE : Hid (w.heap.size ≤ g) := Lib.hid (by omega)
       clear l1 l2 l3 K K' hrow hg hy)
  have K6 := (((((HK'.out.other (a := ⟨w.heap.size, 0, none⟩) (by simp) (.slice (some ⟨bd, 0, none⟩) nd cd)).other (a := ⟨w.heap.size, 1, none⟩) (by simp) (.slice (some ⟨br, 0, none⟩) nr cr)).other (a := ⟨g, k, none⟩) (by simpa using m6) (.int .i64 x)).set 0 (.slice (some ⟨bd, 0, none⟩) nd cd)).set 1 (.slice (some ⟨br, 0, none⟩) nr cr))
  have c5 := K6.cell 0
  have c6 := K6.cell 1
  simp at c5 c6
  have O5 := ((((hown.other (a := ⟨w.heap.size, 0, none⟩) (by simp; omega) (.slice (some ⟨bd, 0, none⟩) nd cd)).other (a := ⟨w.heap.size, 1, none⟩) (by simp; omega) (.slice (some ⟨br, 0, none⟩) nr cr)).setWord n (by rw [HND.out]; exact hn2) g cg (by rw [hl16.out]; exact HG.out) k x).other (a := ⟨w.heap.size + 1, 0, none⟩) (by simp) (.slice (some ⟨bd, 0, none⟩) nd cd)).other (a := ⟨w.heap.size + 1, 1, none⟩) (by simp) (.slice (some ⟨br, 0, none⟩) nr cr)
  refine bodyPost_ret (v := .tuple #[.agg #[.slice (some ⟨bd, 0, none⟩) nd cd, .slice (some ⟨br, 0, none⟩) nr cr], .int .i64 n, .int .i64 0]) ?_ rfl ⟨_, rfl, ?_, ?_⟩
  · simp [results, Try.results20, go_sem, c5, c6]
  · have R := O5.reads.mono (q := fun b => w.heap.size ≤ b) (fun b hb => by simp at hb; omega)
    have e1 : (f.setRow n ((f.data.getD n []).set k x)).data.length = nd := by simp [Fr.setRow, HND.out]
    have e2 : (f.setRow n ((f.data.getD n []).set k x)).refs.length = nr := by simp [Fr.setRow, HNR.out]
    rw [e1, e2] at R
    exact R
  · exact (((((below_up' (by go_grown) hw1).setCell (by simp) _).setCell (by simp) _).setCell (by simpa using LE.out) _).setCell (by simp) _).setCell (by simp) _
end Go.Proofs.Ytipppemkcbgecaa
