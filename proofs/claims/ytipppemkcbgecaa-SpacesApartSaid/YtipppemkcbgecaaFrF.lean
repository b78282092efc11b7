/- frames.known of frames that may be. -/
import Derived.Test.YtipppemkcbgecaaFrE
open Go Go.RowKit
namespace Go.Proofs.Ytipppemkcbgecaa
theorem frCopy_at (p : Nat → Prop) (A B : Option Addr) (nd nr cd0 cr0 : Nat) (f : Fr) (W : World) (h : RdFr p W (.agg #[.slice A nd cd0, .slice B nr cr0]) f) (hok : f.Ok) (hnd : f.data.length = nd) (hnr : f.refs.length = nr) :
    Calls Try.prog 25 #[.agg #[.slice A nd cd0, .slice B nr cr0]] W fun e w' => ∃ bd cd br cr rows, e = .returned (.agg #[.slice (some ⟨bd, 0, none⟩) nd cd, .slice (some ⟨br, 0, none⟩) nr cr]) ∧ OwnFr w' W.heap.size f bd cd br cr rows ∧ Below W.heap.size W w' := by
  have := frCopy p _ f W h (by rw [hok.len]; exact hok.most) hok.most hok.rows
  rw [hnd, hnr] at this
  exact this
set_option maxRecDepth 100000
set_option maxHeartbeats 1000000 in
theorem frKnown_ok (p : Nat → Prop) (v : Value) (f : Fr) (w : World) (n : Nat) (h : RdFr p w v f) (hok : f.Ok) (hn : n < f.refs.length) (hne : f.refs.getD n 0 ≠ 0) :
    Calls Try.prog 26 #[v, .int .i64 n] w fun e w' => ∃ bd cd br cr rows, e = .returned (.tuple #[.agg #[.slice (some ⟨bd, 0, none⟩) f.data.length cd, .slice (some ⟨br, 0, none⟩) f.refs.length cr], .int .i64 0]) ∧ OwnFr w' w.heap.size f bd cd br cr rows ∧ Below w.heap.size w w' := by
  have HF := Lib.hid h
  have HO := Lib.hid hok
  obtain ⟨bd0, od0, cd0, br0, or0, cr0, rows0, rfl, hd, hr, hrows⟩ := h
  obtain ⟨b1, o1, c1, e1, hc1, hm1, hp1, hcell⟩ := hr.at_ (by omega)
  have hx := hcell n hn
  cases e1
  clear hd hr hrows hcell hc1 hp1
  have hndr := hok.len
  have hmost := hok.most
  clear hok
  obtain ⟨nd, hnd⟩ : ∃ n, f.data.length = n := ⟨_, rfl⟩
  obtain ⟨nr, hnr⟩ : ∃ n, f.refs.length = n := ⟨_, rfl⟩
  rw [hnd] at hndr
  rw [hnr] at hn hndr hmost
  rw [hnd, hnr]
  rw [hnd, hnr] at HF
  obtain ⟨y, hy⟩ : ∃ y, f.refs.getD n 0 = y := ⟨_, rfl⟩
  rw [hy] at hx hne
  have hyz : (y == 0) = false := beq_eq_false_iff_ne.2 hne
  have HND := Lib.hid hnd
  have HNR := Lib.hid hnr
  have hbx : br0 < w.heap.size := World.block_lt_of_cell? w _ hx
  have hbx1 : br0 < w.heap.size + 1 := by omega
  have hbx2 : br0 < w.heap.size + 1 + 1 := by omega
  clear hnd hnr hy hne hndr
  go_enter Try.func26, Try.ntmps26
  go_wp2_with (first
    | (go_at_call 23; refine (frCheck_ok p _ f _ (HF.out.below (by go_grown)) HO.out).mono ?_; rintro e w1 ⟨rfl, hw1⟩; obtain ⟨hcl1, hfr1⟩ := bcell hw1; have hz1 : w.heap.size + 1 < w1.heap.size := (by have := hw1.size; simp at this; omega); have hz1' : w.heap.size < w1.heap.size := (by omega))
    | (go_at_call 25; (refine (frCopy_at p _ _ nd nr _ _ f _ (HF.out.below (below_up' (by go_grown) hw1)) HO.out HND.out HNR.out).mono ?_); rintro e w3 ⟨bd, cd, br, cr, rows, rfl, hown, hw3⟩; obtain ⟨hcl3, hfr3⟩ := bcell hw3; have hz3 : w.heap.size + 1 < w3.heap.size := (by have := hw3.size; omega); have hz3' : w.heap.size < w3.heap.size := (by omega)))
  have l2 := hown.refs.lt br rfl
  have l1 := hown.data.lt bd rfl
  refine bodyPost_ret (v := .tuple #[.agg #[.slice (some ⟨bd, 0, none⟩) nd cd, .slice (some ⟨br, 0, none⟩) nr cr], .int .i64 0]) ?_ rfl ⟨bd, cd, br, cr, rows, rfl, ?_, ?_⟩
  · have K5 := (((Blk.at_alloc2 w (.cells #[.slice (some ⟨bd0, od0, none⟩) nd cd0, .slice (some ⟨br0, or0, none⟩) nr cr0] 40) 40 #[.slice none 0 0, .slice none 0 0]).below hw1).below hw3)
    have K6 := (K5.set 0 (.slice (some ⟨bd, 0, none⟩) nd cd)).set 1 (.slice (some ⟨br, 0, none⟩) nr cr)
    have c5 := K6.cell 0
    have c6 := K6.cell 1
    simp at c5 c6
    simp [results, Try.results26, go_sem, c5, c6]
  · exact ((hown.other (by simp; omega) _).other (by simp; omega) _).base (by omega)
  · exact ((below_up' (below_up' (by go_grown) hw1) hw3).setCell (by simp) _).setCell (by simp) _
end Go.Proofs.Ytipppemkcbgecaa
